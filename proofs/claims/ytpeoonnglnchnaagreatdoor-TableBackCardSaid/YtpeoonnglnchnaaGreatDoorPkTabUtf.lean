/- PkTabUtf. -/
import Derived.Lib.DecodeN
import Derived.Test.YtpeoonnglnchnaaGreatDoorPkMrkBytes
set_option linter.unusedSectionVars false
set_option linter.unusedSimpArgs false
set_option linter.unusedVariables false
set_option maxHeartbeats 16000000
set_option maxRecDepth 100000
namespace Go.Proofs.YtpeoonnglnchnaaGreatDoor.Tab
open RowKit Go.Lib
def encLen (r:Nat):Nat:=if r<128 then 1 else if r<2048 then 2 else if r<65536 then 3 else 4
theorem encLen_le (r:Nat):encLen r<=4:=by
 unfold encLen
 repeat' split
 all_goals omega
def Fine (s:ByteArray) (pos:Nat):Prop:=¬ ((Utf8.decode s pos).1=65533/\(Utf8.decode s pos).2=1)
theorem byte_lt (s:ByteArray) (i:Nat):(s.get! i).toNat<256:=UInt8.toNat_lt _
theorem decodeN_fine (n b0 b1 b2 b3:Nat) (hn:0<n) (h0:b0<256) (hf:¬ ((decodeN n b0 b1 b2 b3).1=65533/\(decodeN n b0 b1 b2 b3).2=1)) :
  (decodeN n b0 b1 b2 b3).2=encLen (decodeN n b0 b1 b2 b3).1/\(decodeN n b0 b1 b2 b3).2<=n/\1<=(decodeN n b0 b1 b2 b3).2/\(decodeN n b0 b1 b2 b3).1<=1114111/\((decodeN n b0 b1 b2 b3).1<55296\/57344<=(decodeN n b0 b1 b2 b3).1):=by
 unfold decodeN at hf ⊢
 unfold encLen
 repeat' split at hf
 all_goals simp_all
 all_goals repeat' split
 all_goals omega
theorem fine_len {s:ByteArray} {pos:Nat} (hp:pos<s.size) (h:Fine s pos) :
  (Utf8.decode s pos).2=encLen (Utf8.decode s pos).1/\pos+(Utf8.decode s pos).2<=s.size/\1<=(Utf8.decode s pos).2/\(Utf8.decode s pos).1<=1114111/\((Utf8.decode s pos).1<55296\/57344<=(Utf8.decode s pos).1):=by
 unfold Fine at h
 rw [decode_at] at h ⊢
 have h1:=decodeN_fine _ _ (s.get! (pos+1)).toNat (s.get! (pos+2)).toNat (s.get! (pos+3)).toNat (show 0<s.size - pos by omega) (byte_lt s pos) h
 obtain⟨a,b,c,d,e⟩:=h1
 exact⟨a,by omega,c,d,e⟩
theorem encode_size (r:Nat) (h:r<=1114111) (hv:r<55296\/57344<=r):(Utf8.encode (r:Int)).size=encLen r:=by
 have v:Utf8.valid (r:Int)=true:=by simp [Utf8.valid];omega
 unfold Utf8.encode encLen
 simp only [v,if_true,Int.toNat_natCast]
 repeat' split
 all_goals first | rfl | omega
theorem decodeN_same (n m b0 b1 b2 b3 c1 c2 c3:Nat) (hn:0<n) (hm:(decodeN n b0 b1 b2 b3).2<=m) (hf:¬ ((decodeN n b0 b1 b2 b3).1=65533/\(decodeN n b0 b1 b2 b3).2=1))
  (h1:2<=(decodeN n b0 b1 b2 b3).2->b1=c1) (h2:3<=(decodeN n b0 b1 b2 b3).2->b2=c2) (h3:4<=(decodeN n b0 b1 b2 b3).2->b3=c3):decodeN m b0 c1 c2 c3=decodeN n b0 b1 b2 b3:=by
 unfold decodeN at hm hf h1 h2 h3 ⊢
 by_cases q0:b0<128
 . simp [q0]
 simp only [q0,if_false] at hm hf h1 h2 h3 ⊢
 by_cases q1:b0 / 32=6/\(1<n/\b1 / 64=2)
 ·
  simp only [q1,and_self,if_true] at hm hf h1 h2 h3 ⊢
  by_cases q2:b0 % 32*64+b1 % 64 ≥ 128
  ·
   simp only [q2,if_true] at hm h1 ⊢
   have e1:=h1 (by omega)
   subst e1
   have hm1:1<m:=by omega
   simp [q1,hm1,q2]
  . simp [q2] at hf
 simp only [q1,if_false] at hm hf h1 h2 h3 ⊢
 by_cases q3:b0 / 16=14/\(1<n/\b1 / 64=2)/\(2<n/\b2 / 64=2)
 ·
  have hne:¬ b0 / 32=6:=by omega
  simp only [q3,and_self,if_true] at hm hf h1 h2 h3 ⊢
  split at hf
  ·
   rename_i q4
   simp only [q4,and_self,if_true,true_and] at hm h1 h2 ⊢
   have e1:=h1 (by omega)
   have e2:=h2 (by omega)
   subst e1 e2
   have hm1:1<m:=by omega
   have hm2:2<m:=by omega
   simp [q3,hm1,hm2,hne,q4]
  . simp at hf
 simp only [q3,if_false] at hm hf h1 h2 h3 ⊢
 by_cases q5:b0 / 8=30/\(1<n/\b1 / 64=2)/\(2<n/\b2 / 64=2)/\(3<n/\b3 / 64=2)
 ·
  have hne:¬ b0 / 32=6:=by omega
  have hne2:¬ b0 / 16=14:=by omega
  simp only [q5,and_self,if_true] at hm hf h1 h2 h3 ⊢
  split at hf
  ·
   rename_i q4
   simp only [q4,and_self,if_true,true_and] at hm h1 h2 h3 ⊢
   have e1:=h1 (by omega)
   have e2:=h2 (by omega)
   have e3:=h3 (by omega)
   subst e1 e2 e3
   have hm1:1<m:=by omega
   have hm2:2<m:=by omega
   have hm3:3<m:=by omega
   simp [q5,hm1,hm2,hm3,hne,hne2,q4]
  . simp at hf
 . simp [q5] at hf
def byteOf (r:Nat):Nat->Nat
 | 0=>if r<128 then r else if r<2048 then 192+r / 64 else if r<65536 then 224+r / 4096 else 240+r / 262144
 | 1=>if r<2048 then 128+r % 64 else if r<65536 then 128+r / 64 % 64 else 128+r / 4096 % 64
 | 2=>if r<65536 then 128+r % 64 else 128+r / 64 % 64
 | _=>128+r % 64
theorem decodeN_inv (n b0 b1 b2 b3:Nat) (z0:b0<256) (x1:b1<256) (x2:b2<256) (x3:b3<256) (hf:¬ ((decodeN n b0 b1 b2 b3).1=65533/\(decodeN n b0 b1 b2 b3).2=1)) :
  b0=byteOf (decodeN n b0 b1 b2 b3).1 0/\(2<=(decodeN n b0 b1 b2 b3).2->b1=byteOf (decodeN n b0 b1 b2 b3).1 1)/\(3<=(decodeN n b0 b1 b2 b3).2->b2=byteOf (decodeN n b0 b1 b2 b3).1 2)/\(4<=(decodeN n b0 b1 b2 b3).2->b3=byteOf (decodeN n b0 b1 b2 b3).1 3):=by
 unfold decodeN at hf ⊢
 by_cases q0:b0<128
 . simp [q0,byteOf]
 simp only [q0,if_false] at hf ⊢
 by_cases q1:b0 / 32=6/\(1<n/\b1 / 64=2)
 ·
  simp only [q1,and_self,if_true] at hf ⊢
  by_cases q2:b0 % 32*64+b1 % 64 ≥ 128
  ·
   simp only [q2,if_true]
   have h1:b0 % 32*64+b1 % 64<2048:=by omega
   have h2:¬ b0 % 32*64+b1 % 64<128:=by omega
   refine⟨?_,fun _=>?_,fun h=>by omega,fun h=>by omega⟩
   . simp only [byteOf];rw [if_neg h2,if_pos h1];omega
   . simp only [byteOf];rw [if_pos h1];omega
  . simp [q2] at hf
 simp only [q1,if_false] at hf ⊢
 by_cases q3:b0 / 16=14/\(1<n/\b1 / 64=2)/\(2<n/\b2 / 64=2)
 ·
  simp only [q3,and_self,if_true] at hf ⊢
  split at hf
  ·
   rename_i q4
   simp only [q4,and_self,if_true,true_and]
   have h1:b0 % 16*4096+b1 % 64*64+b2 % 64<65536:=by omega
   have h2:¬ b0 % 16*4096+b1 % 64*64+b2 % 64<2048:=by omega
   have h3:¬ b0 % 16*4096+b1 % 64*64+b2 % 64<128:=by omega
   refine⟨?_,fun _=>?_,fun _=>?_,fun h=>by omega⟩
   . simp only [byteOf];rw [if_neg h3,if_neg h2,if_pos h1];omega
   . simp only [byteOf];rw [if_neg h2,if_pos h1];omega
   . simp only [byteOf];rw [if_pos h1];omega
  . simp at hf
 simp only [q3,if_false] at hf ⊢
 by_cases q5:b0 / 8=30/\(1<n/\b1 / 64=2)/\(2<n/\b2 / 64=2)/\(3<n/\b3 / 64=2)
 ·
  simp only [q5,and_self,if_true] at hf ⊢
  split at hf
  ·
   rename_i q4
   simp only [q4,and_self,if_true,true_and]
   have h1:¬ b0 % 8*262144+b1 % 64*4096+b2 % 64*64+b3 % 64<65536:=by omega
   have h2:¬ b0 % 8*262144+b1 % 64*4096+b2 % 64*64+b3 % 64<2048:=by omega
   have h3:¬ b0 % 8*262144+b1 % 64*4096+b2 % 64*64+b3 % 64<128:=by omega
   refine⟨?_,fun _=>?_,fun _=>?_,fun _=>?_⟩
   . simp only [byteOf];rw [if_neg h3,if_neg h2,if_neg h1];omega
   . simp only [byteOf];rw [if_neg h2,if_neg h1];omega
   . simp only [byteOf];rw [if_neg h1];omega
   . simp only [byteOf];omega
  . simp at hf
 . simp [q5] at hf
theorem get_lt {s:ByteArray} {i:Nat} (h:i<s.size):s.get! i=s[i]'h:=by
 show s.data[i]! = _
 rw [getElem!_pos s.data i h]
 rfl
theorem extract_eq {a b:ByteArray} {p q:Nat} (hpq:p<=q) (ha:q<=a.size) (hb:q<=b.size):a.extract p q=b.extract p q ↔ ∀ j,j<q - p->a.get! (p+j)=b.get! (p+j):=by
 constructor
 ·
  intro h j hj
  have h1:(a.extract p q).data[j]?=(b.extract p q).data[j]?:=by rw [h]
  simp only [ByteArray.data_extract,Array.getElem?_extract] at h1
  rw [if_pos (by have:a.data.size=a.size:=rfl;omega),if_pos (by have:b.data.size=b.size:=rfl;omega)] at h1
  have ea:a.data[p+j]?=some (a.get! (p+j)):=by rw [get_lt (by omega)];exact Array.getElem?_eq_getElem (by have:a.data.size=a.size:=rfl;omega)
  have eb:b.data[p+j]?=some (b.get! (p+j)):=by rw [get_lt (by omega)];exact Array.getElem?_eq_getElem (by have:b.data.size=b.size:=rfl;omega)
  rw [ea,eb] at h1
  exact Option.some.inj h1
 ·
  intro h
  apply ByteArray.ext
  apply Array.ext_getElem?
  intro j
  simp only [ByteArray.data_extract,Array.getElem?_extract]
  by_cases hj:j<q - p
  ·
   rw [if_pos (by have:a.data.size=a.size:=rfl;omega),if_pos (by have:b.data.size=b.size:=rfl;omega)]
   have ea:a.data[p+j]?=some (a.get! (p+j)):=by rw [get_lt (by omega)];exact Array.getElem?_eq_getElem (by have:a.data.size=a.size:=rfl;omega)
   have eb:b.data[p+j]?=some (b.get! (p+j)):=by rw [get_lt (by omega)];exact Array.getElem?_eq_getElem (by have:b.data.size=b.size:=rfl;omega)
   rw [ea,eb,h j hj]
  . rw [if_neg (by have:a.data.size=a.size:=rfl;omega),if_neg (by have:b.data.size=b.size:=rfl;omega)]
theorem same_rune {a b:ByteArray} {pos:Nat} (ha:pos<a.size) (hb:pos<b.size) (fa:Fine a pos) (fb:Fine b pos) :
  (pos+(Utf8.decode a pos).2<=b.size/\a.extract pos (pos+(Utf8.decode a pos).2)=b.extract pos (pos+(Utf8.decode a pos).2)) ↔ (Utf8.decode a pos).1=(Utf8.decode b pos).1:=by
 have la:=fine_len ha fa
 have lb:=fine_len hb fb
 constructor
 ·
  rintro⟨h1,h2⟩
  have h3:=(extract_eq (by omega) la.2.1 h1).1 h2
  have hd:Utf8.decode b pos=Utf8.decode a pos:=by
   unfold Fine at fa
   rw [decode_at b,decode_at a]
   rw [decode_at a] at fa h3 h1 la
   have e0:=h3 0 (by omega)
   rw [Nat.add_zero] at e0
   rw [<-e0]
   exact decodeN_same _ _ _ _ _ _ _ _ _ (by omega) (by omega) fa (fun h=>by rw [h3 1 (by omega)]) (fun h=>by rw [h3 2 (by omega)]) (fun h=>by rw [h3 3 (by omega)])
  rw [hd]
 ·
  intro he
  have hw:(Utf8.decode a pos).2=(Utf8.decode b pos).2:=by rw [la.1,lb.1,he]
  refine⟨by rw [hw];exact lb.2.1,(extract_eq (by omega) la.2.1 (by rw [hw];exact lb.2.1)).2 fun j hj=>?_⟩
  unfold Fine at fa fb
  have la4:(Utf8.decode a pos).2<=4:=by rw [la.1];exact encLen_le _
  rw [decode_at a] at fa la4 hj
  rw [decode_at b] at fb
  rw [decode_at a,decode_at b] at he hw
  have i1:=decodeN_inv _ _ _ _ _ (byte_lt a pos) (byte_lt a (pos+1)) (byte_lt a (pos+2)) (byte_lt a (pos+3)) fa
  have i2:=decodeN_inv _ _ _ _ _ (byte_lt b pos) (byte_lt b (pos+1)) (byte_lt b (pos+2)) (byte_lt b (pos+3)) fb
  rw [<-he,<-hw] at i2
  have key:(a.get! (pos+j)).toNat=(b.get! (pos+j)).toNat:=by
   rcases Nat.lt_or_ge j 1 with h | h
   ·
    obtain rfl:j=0:=by omega
    rw [Nat.add_zero,i1.1,<-i2.1]
   ·
    rcases Nat.lt_or_ge j 2 with h | h
    ·
     obtain rfl:j=1:=by omega
     rw [i1.2.1 (by omega),<-i2.2.1 (by omega)]
    ·
     rcases Nat.lt_or_ge j 3 with h | h
     ·
      obtain rfl:j=2:=by omega
      rw [i1.2.2.1 (by omega),<-i2.2.2.1 (by omega)]
     ·
      obtain rfl:j=3:=by omega
      rw [i1.2.2.2 (by omega),<-i2.2.2.2 (by omega)]
  exact UInt8.toNat_inj.1 key
def wellFrom (s:ByteArray):Nat->Nat->Prop
 | 0,_=>True
 | f+1,pos=>pos<s.size->Fine s pos/\wellFrom s f (pos+(Utf8.decode s pos).2)
def Well (s:ByteArray):Prop:=wellFrom s s.size 0
def sharedR:List Int->List Int->Nat
 | x::xs,y::ys=>if x=y then encLen x.toNat+sharedR xs ys else 0
 | _,_=>0
def sharedF (a b:ByteArray):Nat:=sharedR (runesOf a) (runesOf b)
theorem well_step {s:ByteArray} {f pos:Nat} (h:wellFrom s (f+1) pos) (hp:pos<s.size):Fine s pos/\wellFrom s f (pos+(Utf8.decode s pos).2):=h hp
theorem sharedR_le:∀ (xs ys:List Int) (s:ByteArray) (f pos:Nat),xs=runesFrom s f pos->wellFrom s f pos->pos<=s.size->pos+sharedR xs ys<=s.size
 | [],_,_,_,_,_,_,h=>by simpa [sharedR] using h
 | x::xs,[],_,_,_,_,_,h=>by simpa [sharedR] using h
 | x::xs,y::ys,s,f,pos,hx,hw,h=>by
  unfold sharedR
  split
  ·
   cases f with
   | zero=>simp [runesFrom] at hx
   | succ f=>
    by_cases hp:pos<s.size
    ·
     rw [runesFrom_step s f hp] at hx
     injection hx with h1 h2
     obtain⟨w1,w2⟩:=hw hp
     have hl:=fine_len hp w1
     have:=sharedR_le xs ys s f _ h2 w2 hl.2.1
     subst h1
     rw [Int.toNat_natCast,<-hl.1]
     omega
    ·
     rw [runesFrom_end s (f+1) hp] at hx
     cases hx
  . simpa using h
theorem sharedF_le {a:ByteArray} (b:ByteArray) (h:Well a):sharedF a b<=a.size:=by
 have:=sharedR_le (runesOf a) (runesOf b) a a.size 0 rfl h (Nat.zero_le _)
 unfold sharedF
 omega
end Go.Proofs.YtpeoonnglnchnaaGreatDoor.Tab
namespace Go.Proofs.YtpeoonnglnchnaaGreatDoor.Tab
open Go.Lib (hid)
open RowKit Go.Lib RegInv
def encS (r:Int):ByteArray:=Utf8.encode r
theorem run_encS (r:Int) (W:World):(convert 21 9 (.int .i32 r)).run Tryz.prog W=.ok (.string (encS r)) W:=by
 go_simp
 rfl
theorem encS_size (r:Nat) (h:r<=1114111) (hv:r<55296\/57344<=r):(encS (r:Int)).size=encLen r:=encode_size r h hv
attribute [irreducible] encS
theorem shared_stop {a b:ByteArray} {f g pos:Nat} (ha:pos<a.size) (fa:Fine a pos) (wb:wellFrom b g pos) (hg:b.size<=pos+g) (h:¬ (pos+(Utf8.decode a pos).2<=b.size/\a.extract pos (pos+(Utf8.decode a pos).2)=b.extract pos (pos+(Utf8.decode a pos).2))) :
  sharedR (runesFrom a (f+1) pos) (runesFrom b g pos)=0:=by
 rw [runesFrom_step a f ha]
 by_cases hb:pos<b.size
 ·
  obtain⟨g,rfl⟩:∃ g',g=g'+1:=⟨g - 1,by omega⟩
  rw [runesFrom_step b g hb]
  unfold sharedR
  rw [if_neg fun e=>h ((same_rune ha hb fa (well_step wb hb).1).2 (by omega))]
 ·
  rw [runesFrom_end b g hb]
  rfl
theorem shared_go {a b:ByteArray} {f g pos:Nat} (ha:pos<a.size) (fa:Fine a pos) (wb:wellFrom b g pos) (hg:b.size<=pos+g) (h1:pos+(Utf8.decode a pos).2<=b.size) (h2:a.extract pos (pos+(Utf8.decode a pos).2)=b.extract pos (pos+(Utf8.decode a pos).2)) :
  ∃ g',g=g'+1/\wellFrom b g' (pos+(Utf8.decode a pos).2)/\sharedR (runesFrom a (f+1) pos) (runesFrom b g pos)=(Utf8.decode a pos).2+sharedR (runesFrom a f (pos+(Utf8.decode a pos).2)) (runesFrom b g' (pos+(Utf8.decode a pos).2)):=by
 have hl:=fine_len ha fa
 have hb:pos<b.size:=by omega
 obtain⟨g,rfl⟩:∃ g',g=g'+1:=⟨g - 1,by omega⟩
 have hr:=(same_rune ha hb fa (well_step wb hb).1).1 ⟨h1,h2⟩
 have hlb:=fine_len hb (well_step wb hb).1
 have hw:(Utf8.decode b pos).2=(Utf8.decode a pos).2:=by rw [hlb.1,hl.1,hr]
 refine⟨g,rfl,by rw [<-hw];exact (well_step wb hb).2,?_⟩
 rw [runesFrom_step a f ha,runesFrom_step b g hb,hw]
 conv=>lhs;unfold sharedR
 rw [if_pos (by omega),Int.toNat_natCast,<-hl.1]
theorem ne_toList {x y:ByteArray} (h:x≠y):(x.toList == y.toList)=false:=by
 rw [beq_eq_false_iff_ne]
 intro e
 apply h
 apply ByteArray.ext
 rw [ByteArray.toList_eq,ByteArray.toList_eq] at e
 exact Array.toList_inj.1 e
theorem has_size {w:World} {k:Nat} {o:Obj} (h:w.heap[k]?=some o):k<w.heap.size:=(ag0.1 h).1
theorem shared_any (a b:ByteArray) (w:World) (sa:a.size<=1000000) (sb:b.size<=1000000) (wa:Well a) (wb:Well b) :
  Calls Tryz.prog 81 #[.string a,.string b] w fun e w'=>e=.returned (.int .i64 (sharedF a b:Nat))/\Below w.heap.size w w':=by
 obtain⟨T,hT⟩:∃ T,T=sharedF a b:=⟨_,rfl⟩
 rw [<-hT]
 have HT:=hid hT
 have HW:=hid (And.intro wa wb)
 clear hT wa wb
 go_enter Tryz.func81,Tryz.ntmps81
 go_wp2_with fail
 go_loopw [5] (fun nv wr=>∃ (pos f g:Nat),wr.heap[w.heap.size]?=some (.stringIter a pos)/\Hid (Below w.heap.size w wr)/\nv=.int .i64 pos/\pos<=a.size/\pos<=b.size /\
  Hid (wellFrom a f pos/\wellFrom b g pos/\T=pos+sharedR (runesFrom a f pos) (runesFrom b g pos))/\a.size<=pos+f/\b.size<=pos+g) (fun _ wr=>a.size - wr.iterPos w.heap.size)
 case atStart=>exact⟨0,a.size,b.size,World.iter_heap w a 0,hid (br.alloc lr _),rfl,Nat.zero_le _,Nat.zero_le _,hid ⟨HW.out.1,HW.out.2,by rw [HT.out];unfold sharedF runesOf;omega⟩,by omega,by omega⟩
 case round=>
  obtain⟨pos,f,g,hit,hB,rfl,hpa,hpb,hin,hf,hg⟩:=hrel
  have hpos0:=iter_pos hit
  by_cases hp:pos<a.size
  ·
   have hnx:∀ ty,(Instr.next (.pointer (some ⟨w.heap.size,0,none⟩)) true ty).run Tryz.prog wr=_:=fun ty=>Lib.run_next_any_at wr w.heap.size a pos ty hit hp
   obtain⟨f,rfl⟩:∃ f',f=f'+1:=⟨f - 1,by omega⟩
   obtain⟨w1,w2,hTT⟩:=hin.out
   obtain⟨fa,w3⟩:=well_step w1 hp
   have hl:=fine_len hp fa
   obtain⟨W1,hW1⟩:∃ W1,W1=wr.iterAt w.heap.size a (pos+(Utf8.decode a pos).2):=⟨_,rfl⟩
   have hit2:W1.heap[w.heap.size]?=some (.stringIter a (pos+(Utf8.decode a pos).2)):=by rw [hW1];exact Lib.iterAt_heap wr w.heap.size a pos _ hit
   have hB1:Below w.heap.size w W1:=by rw [hW1];exact Lib.below_iterAt hB.out lr a _
   rw [<-hW1] at hnx
   have hes:=encS_size (Utf8.decode a pos).1 hl.2.2.2.1 hl.2.2.2.2
   rw [<-hl.1] at hes
   have hst:=shared_stop (f:=f) hp fa w2 hg
   have hgo:=shared_go (f:=f) hp fa w2 hg
   obtain⟨z,hz⟩:∃ z,z=(Utf8.decode a pos).2:=⟨_,rfl⟩
   obtain⟨r,hr⟩:∃ r,r=(Utf8.decode a pos).1:=⟨_,rfl⟩
   have hz1:1<=z:=by rw [hz];exact hl.2.2.1
   have hz2:pos+z<=a.size:=by rw [hz];exact hl.2.1
   rw [<-hz] at hit2 hes hst hgo w3
   rw [<-hr] at hnx hes
   have hcv:=fun W=>run_encS (r:Int) W
   obtain⟨E,hE⟩:∃ E,E=encS (r:Int):=⟨_,rfl⟩
   rw [<-hE] at hcv hes
   have HI2:=hid hit2
   have HB1:=hid hB1
   have HP0:=hid hpos0
   have HTT:=hid hTT
   have HST:=hid hst
   have HGO:=hid hgo
   have HW3:=hid w3
   clear hW1 hit hB hit2 hB1 hpos0 hin hl hTT hst hgo w1 w2 w3 fa hE hz hr
   by_cases h1:b.size<pos+z
   ·
    have hT0:T=pos:=by rw [HTT.out,HST.out (fun h=>by omega)];rfl
    clear HST HGO
    have HT0:=hid hT0
    clear hT0
    go_upto_region 6 with fail
    have q0:(b.size:Int)<(pos:Int)+(z:Int):=by omega
    refine wp_region_calm (by kernel_rfl) (by kernel_rfl) ?_
    repeat (go_big_quiet_step (fail))
    refine wpQuiet_nil ?_
    rintro _ ⟨z0,rfl⟩
    have hb:=z0.below
    obtain⟨W,hW⟩:∃ W,W=z0.at:=⟨_,rfl⟩
    rw [<-hW] at hb ⊢
    clear hW
    have HB9:=hid (below_then HB1.out lr hb)
    clear hb
    go_wp2_with fail
    go_ret
    exact⟨by rw [HT0.out];rfl,HB9.out⟩
   ·
    have HBS:=hid h1
    by_cases h2:a.extract pos (pos+z)=b.extract pos (pos+z)
    ·
     have H2:=hid h2
     clear h2
     go_upto_region 6 with fail
     have q0:¬ ((b.size:Int)<(pos:Int)+(z:Int)):=by have:=HBS.out;omega
     have q2:(0:Int)<=(pos:Int):=by omega
     have hx:=H2.out
     refine wp_region_calm (by kernel_rfl) (by kernel_rfl) ?_
     repeat (go_big_quiet_step (fail))
     refine wpQuiet_nil ?_
     rintro _ ⟨z0,rfl⟩
     have hb:=z0.below
     obtain⟨W,hW⟩:∃ W,W=z0.at:=⟨_,rfl⟩
     rw [<-hW] at hb ⊢
     clear hW
     have HB9:=hid (below_then HB1.out lr hb)
     have HI9:=hid ((hb.block w.heap.size (has_size HI2.out)).trans HI2.out)
     clear hb
     go_wp2_with fail
     go_roundw
     case rel=>
      obtain⟨g',rfl,w9,hs9⟩:=HGO.out (by have:=HBS.out;omega) H2.out
      exact⟨pos+z,f,g',HI9.out,HB9,by go_num,hz2,by have:=HBS.out;omega,hid ⟨HW3.out,w9,by rw [HTT.out,hs9];omega⟩,by omega,by omega⟩
     case measure=>rw [iter_pos HI9.out,HP0.out];omega
    ·
     have H2:=hid h2
     have HT0:=hid (show T=pos by rw [HTT.out,HST.out (fun h=>h2 h.2)];rfl)
     clear h2 HST HGO
     go_upto_region 6 with fail
     have q0:¬ ((b.size:Int)<(pos:Int)+(z:Int)):=by have:=HBS.out;omega
     have q2:(0:Int)<=(pos:Int):=by omega
     have hx:=ne_toList H2.out
     refine wp_region_calm (by kernel_rfl) (by kernel_rfl) ?_
     repeat (go_big_quiet_step (fail))
     refine wpQuiet_nil ?_
     rintro _ ⟨z0,rfl⟩
     have hb:=z0.below
     obtain⟨W,hW⟩:∃ W,W=z0.at:=⟨_,rfl⟩
     rw [<-hW] at hb ⊢
     clear hW
     have HB9:=hid (below_then HB1.out lr hb)
     clear hb
     go_wp2_with fail
     go_ret
     exact⟨by rw [HT0.out];rfl,HB9.out⟩
  ·
   have hnx:∀ ty,(Instr.next (.pointer (some ⟨w.heap.size,0,none⟩)) true ty).run Tryz.prog wr=_:=fun ty=>Lib.run_next_end_at wr w.heap.size a pos ty hit hp
   have hfin:T=pos:=by have h:=hin.out.2.2;rw [runesFrom_end a f hp] at h;simpa [sharedR] using h
   clear hit hpos0 hin
   go_wp2_with fail
   go_ret
   exact⟨by rw [hfin];rfl,hB.out⟩
end Go.Proofs.YtpeoonnglnchnaaGreatDoor.Tab
namespace Go.Proofs.YtpeoonnglnchnaaGreatDoor.Tab
open RowKit YtpeoonnglnchnaaGreatDoor.Spare Mut Mrk
theorem sharedR_comm:∀ xs ys:List Int,sharedR xs ys=sharedR ys xs
 | [],[]=>rfl
 | [],_::_=>rfl
 | _::_,[]=>rfl
 | x::xs,y::ys=>by
  unfold sharedR
  by_cases h:x=y
  . subst h;rw [if_pos rfl,if_pos rfl,sharedR_comm xs ys]
  . rw [if_neg h,if_neg (fun e=>h e.symm)]
theorem sharedF_comm (a b:ByteArray):sharedF a b=sharedF b a:=sharedR_comm _ _
theorem sharedF_le2 (a:ByteArray) {b:ByteArray} (h:Well b):sharedF a b<=b.size:=by rw [sharedF_comm];exact sharedF_le a h
theorem well_empty:Well ByteArray.empty:=trivial
theorem bad_not_fine {s:ByteArray} {pos:Nat} (hp:pos<s.size) (h:badF s pos (Utf8.decode s pos).1=false):Fine s pos:=by
 intro e
 have hsz:(s.extract pos s.size).size=s.size - pos:=by rw [ByteArray.size_extract];omega
 have hg:Lib.decodeGo (s.extract pos s.size)=Utf8.decode s pos:=by
  unfold Lib.decodeGo
  rw [if_neg (by omega),Lib.tail_decode,Nat.add_zero]
 unfold badF at h
 rw [hg,e.1,e.2] at h
 simp at h
theorem well_key (s:ByteArray):∀ (f pos:Nat),keyFrom s f pos=true->wellFrom s f pos
 | 0,_,_=>trivial
 | f+1,pos,h=>fun hp=>by
  unfold keyFrom at h
  rw [if_pos hp] at h
  by_cases hb:badF s pos (Utf8.decode s pos).1=true
  . rw [hb] at h;simp at h
  ·
   have hb2:=Bool.eq_false_iff.2 hb
   refine⟨bad_not_fine hp hb2,well_key s f _ ?_⟩
   split at h
   . cases h
   . exact h
theorem keyF_well {s:ByteArray} (h:keyF s=true):Well s:=by
 unfold keyF at h
 simp only [Bool.and_eq_true,decide_eq_true_eq] at h
 exact well_key s s.size 0 h.2
def restM (m:Mu):List Nat:=restL m.table.toNat m.kind.toNat m.expiry.toNat m.at_.p.toNat m.at_.l.toNat m.at_.w.toNat m.fin m.val m.over
def rowB (last:ByteArray) (m:Mu):List Nat:=putF (sharedF last m.key)++(textF (m.key.extract (sharedF last m.key) m.key.size)++restM m)
def pageL:ByteArray->List Mu->List Nat
 | _,[]=>[]
 | last,m::l=>rowB last m++pageL m.key l
def pageB (l:List Mu):List Nat:=putF l.length++pageL ByteArray.empty l
variable [Inhabited Lim]
theorem rest_ro (x:Ro) (wb w:World) (v:Value) (bs:List Nat) (hx:Over wb x) (hn:NumM x.1) (hbw:Below wb.heap.size wb w) (hv:OwnB w wb.heap.size v bs) (hbs:bs.length<=700000) :
  Calls Tryz.prog 82 #[v,vM x] w (OnPost wb.heap.size v (bs++restM x.1) w):=by
 obtain⟨⟨tb,kd,key,fin,val,ex,⟨p,l,h⟩,over⟩,ov⟩:=x
 obtain⟨⟨t0,t1⟩,⟨k0,k1⟩,⟨e0,e1⟩,⟨p0,l0,w0,p1,l1,w1⟩,s1,s2,s3,s4,s5⟩:=hn
 simp only [] at t0 t1 k0 k1 e0 e1 p0 l0 w0 p1 l1 w1 s1 s2 s3 s4 s5
 obtain⟨tb,rfl⟩:=Int.eq_ofNat_of_zero_le t0
 obtain⟨kd,rfl⟩:=Int.eq_ofNat_of_zero_le k0
 obtain⟨ex,rfl⟩:=Int.eq_ofNat_of_zero_le e0
 obtain⟨p,rfl⟩:=Int.eq_ofNat_of_zero_le p0
 obtain⟨l,rfl⟩:=Int.eq_ofNat_of_zero_le l0
 obtain⟨h,rfl⟩:=Int.eq_ofNat_of_zero_le w0
 exact rest_onto tb kd ex p l h key fin val over ov wb v bs w (by omega) (by omega) (by omega) (by omega) (by omega) (by omega) s2 s3 s4 s5 hx.lst hbw hv hbs
end Go.Proofs.YtpeoonnglnchnaaGreatDoor.Tab
namespace Go.Proofs.YtpeoonnglnchnaaGreatDoor.Mut
open Go.Lib (hid)
open RowKit Go.Shelf Go.Sort YtpeoonnglnchnaaGreatDoor.Ord
variable [Inhabited Lim]
theorem memcompare_any (x y:Ro) (w:World) (hx:Over w x) (hy:Over w y) (h1:x.1.over.length<=1000000) (h2:y.1.over.length<=1000000) :
  Calls Tryz.prog 80 #[vM x,vM y] w fun e w'=>e=.returned (.int .i64 (sibC x.1 y.1))/\Lays w w':=by
 have hc:=fun (z:World) (h:Lays w z)=>compare_any x y z (hx.below h.below) (hy.below h.below) h1 h2
 have hsib:sibC x.1 y.1=orL [cmpS x.1.key y.1.key,muC x.1 y.1]:=rfl
 rw [hsib]
 obtain⟨c,hce⟩:∃ c,c=muC x.1 y.1:=⟨_,rfl⟩
 rw [<-hce] at hc ⊢
 obtain⟨ao1,ac1,e1,-,-⟩:=Over.form hx
 obtain⟨ao2,ac2,e2,-,-⟩:=Over.form hy
 obtain⟨⟨at1,ak1,akey1,afin1,aval1,aex1,⟨ap1,al1,aw1⟩,aov1⟩,av1⟩:=x
 obtain⟨⟨at2,ak2,akey2,afin2,aval2,aex2,⟨ap2,al2,aw2⟩,aov2⟩,av2⟩:=y
 simp only [] at e1 e2 hsib
 subst e1 e2
 unfold vM at hc ⊢
 simp only [] at hc ⊢
 generalize aov1.length=n1 at *
 generalize aov2.length=n2 at *
 have HC:=hid hc
 clear hc hx hy h1 h2 hce hsib
 go_enter Tryz.func80,Tryz.ntmps80
 go_wp2_with fail
 refine wp_region_lays_tail 8 (by kernel_rfl) (by kernel_rfl) ?_
 simp only [List.take_succ_cons,List.take_zero,List.drop_succ_cons,List.drop_zero]
 repeat (go_big_quiet_step (first
  | (go_at_call 113;exact laid_same (cmpS_any _ _ _))
  | (go_at_call 108;exact laid (HC.out _ ((((Lays.refl _).alloc _).alloc _).trans (GW.lays _))))))
 refine wpQuiet_nil ?_
 rintro _ ⟨y,rfl⟩
 go_wp2_with fail
 refine (or_any y.at.heap.size 0 2 [cmpS akey1 akey2,c] _ (ints_new _ _ [cmpS akey1 akey2,c]) (by simp)).mono ?_
 rintro e w2 ⟨rfl,rfl⟩
 go_wp2_with fail
 go_ret
 exact⟨rfl,(((Lays.refl _).alloc _).alloc _).trans (y.lays.alloc _)⟩
theorem subS (w:World) (row:Option Nat):SWO (ltOf fun x y:SubR w row=>sibC x.1.1 y.1.1) where
 irrefl x:=by
  show decide (sibC x.1.1 x.1.1<0)=false
  rw [sibO.self];rfl
 trans x y z h1 h2:=by
  unfold ltOf at *
  simp only [decide_eq_true_eq] at *
  exact sibO.trans _ _ _ h1 h2
 ntrans x y z h1 h2:=by
  unfold ltOf at *
  simp only [decide_eq_false_iff_not] at *
  have h1':=sibO.le_of.1 h1
  have h2':=sibO.le_of.1 h2
  exact sibO.le_of.2 (sibO.le_le h2' h1')
def SortM (base:Nat) (w:World) (v:Value) (R:List Ro) (e:Ending) (w':World):Prop:=
 e=.returned (.tuple #[])/\∃ R':List Ro,R'.Perm R/\R'.Pairwise (fun a b=>sibC a.1 b.1<=0)/\w'.ownsRow base 42 10 v R'.length (R'.flatMap enM)/\w.grownBy w' v.ownBlock
theorem memcompare_enters:∀ args w,(callFunc 80 args).run Tryz.prog w=.ok (.enter 80 args) w:=enters_of Tryz.func80 (by kernel_rfl) rfl
theorem memsort_some (base g cap:Nat) (R:List Ro) (w:World) (hown:w.ownsRow base 42 10 (.slice (some ⟨g,0,none⟩) R.length cap) R.length (R.flatMap enM)) (hoff:∀ x∈R,Okay w (some g) x) (hn:R.length<=1000000) :
  Calls Tryz.prog 79 #[.slice (some ⟨g,0,none⟩) R.length cap,.func (.func 80) #[] #[]] w (SortM base w (.slice (some ⟨g,0,none⟩) R.length cap) R):=by
 obtain⟨L,hL⟩:∃ L:List (SubR w (some g)),L.map (·.1)=R:=⟨subs R hoff,subs_val R hoff⟩
 subst hL
 have hlen:(L.map (·.1)).length=L.length:=by simp
 rw [hlen] at hown hn ⊢
 rw [<-map_flat] at hown
 have hk:∀ x:SubR w (some g),(enM x.1).length=10:=fun _=>rfl
 have h1:∀ x:SubR w (some g),∀ v∈enM x.1,v.oneCell'=true:=fun x v hv=>by
  obtain⟨ao,c,e,-,-⟩:=x.2.1.over.form
  unfold enM at hv
  rw [e] at hv
  simp at hv
  rcases hv with rfl | rfl | rfl | rfl | rfl | rfl | rfl | rfl | rfl | rfl <;> rfl
 obtain⟨-,-,cur,h4,-,-,-,-⟩:=owned_parts hown
 have hlt:g<w.heap.size:=(ag0.1 h4).1
 have hC:CmpLays Tryz.prog 80 #[] (fun x:SubR w (some g)=>enM x.1) 10 (fun x y=>sibC x.1.1 y.1.1) g 0 L.toArray.size w:=fun m os dk hdk x y=>by
  have hg:=(owned_put (cap:=cap) hk hown dk (by simpa using hdk) m os).2
  have:=memcompare_any x.1 y.1 (sortWorldK (fun x:SubR w (some g)=>enM x.1) 10 w g 0 m dk os) (x.2.1 _ hg) (y.2.1 _ hg) x.2.2 y.2.2
  rw [vM_eq,vM_eq] at this
  exact this
 have hcon:=AnyQ.slices_SortFunc laySort 10 (fun w=>Tryz.isAgg42 w) (fun w=>Tryz.sizeOf42 w) (fun x:SubR w (some g)=>enM x.1) hk h1 (fun x y=>sibC x.1.1 y.1.1) (subS w (some g)) 80 #[] g 0 cap L.toArray w memcompare_enters hC (holds_owned hk hown) hlt (by simp;omega)
 have e0:L.toArray.size=L.length:=by simp
 rw [e0] at hcon
 refine hcon.mono ?_
 rintro e w' ⟨rfl,d',n,os,hp,hs,rfl⟩
 have hds:d'.size=L.length:=by have:=hp.1;simpa using this
 have hq:=owned_put (cap:=cap) hk hown d' hds n os
 have hdl:d'.toList.length=L.length:=by simpa using hds
 refine⟨rfl,d'.toList.map (·.1),?_,?_,?_,hq.2⟩
 ·
  have h:=hp.2.2
  have x1:(d'.extract 0 L.length).toList=d'.toList:=by rw [<-hds];simp
  have x2:(L.toArray.extract 0 L.length).toList=L:=by simp
  rw [x1,x2] at h
  exact h.map _
 ·
  rw [List.pairwise_map,List.pairwise_iff_getElem]
  intro i j hi hj hij
  have h:=hs i j (Nat.zero_le _) hij (by simpa [hds] using hj)
  rw [getElem!_pos d' i (by simpa using hi),getElem!_pos d' j (by simpa using hj)] at h
  unfold ltOf at h
  simp only [decide_eq_false_iff_not] at h
  exact sibO.le_of.1 h
 ·
  rw [<-map_flat]
  have:=hq.1
  rw [show (d'.toList.map (·.1)).length=L.length by simp [hds]]
  exact this
