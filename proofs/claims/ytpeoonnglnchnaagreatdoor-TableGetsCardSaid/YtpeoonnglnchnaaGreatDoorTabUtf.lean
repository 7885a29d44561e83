/- Texts that are well formed, rune by rune: a rune's width is its encoding's, its bytes tell it, and it tells its bytes. -/
import Derived.Test.YtpeoonnglnchnaaGreatDoorPkTexts
import Derived.Lib.DecodeN
set_option maxHeartbeats 16000000
set_option linter.unusedSimpArgs false
set_option linter.unusedVariables false
namespace Go.Proofs.YtpeoonnglnchnaaGreatDoor.Tab
open Go.RowKit Go.Lib
def encLen (r:Nat):Nat:=if r<128 then 1 else if r<2048 then 2 else if r<65536 then 3 else 4
theorem encLen_le (r:Nat):encLen r≤4:=by
 unfold encLen
 repeat' split
 all_goals omega
def Fine (s:ByteArray) (pos:Nat):Prop:=¬ ((Utf8.decode s pos).1=65533∧(Utf8.decode s pos).2=1)
theorem byte_lt (s:ByteArray) (i:Nat):(s.get! i).toNat<256:=UInt8.toNat_lt _
theorem decodeN_fine (n b0 b1 b2 b3:Nat) (hn:0<n) (h0:b0<256) (hf:¬ ((decodeN n b0 b1 b2 b3).1=65533∧(decodeN n b0 b1 b2 b3).2=1)) :
  (decodeN n b0 b1 b2 b3).2=encLen (decodeN n b0 b1 b2 b3).1∧(decodeN n b0 b1 b2 b3).2≤n∧1≤(decodeN n b0 b1 b2 b3).2∧(decodeN n b0 b1 b2 b3).1≤1114111∧((decodeN n b0 b1 b2 b3).1<55296∨57344≤(decodeN n b0 b1 b2 b3).1):=by
 unfold decodeN at hf ⊢
 unfold encLen
 repeat' split at hf
 all_goals simp_all
 all_goals repeat' split
 all_goals omega
theorem fine_len {s:ByteArray} {pos:Nat} (hp:pos<s.size) (h:Fine s pos) :
  (Utf8.decode s pos).2=encLen (Utf8.decode s pos).1∧pos+(Utf8.decode s pos).2≤s.size∧1≤(Utf8.decode s pos).2∧(Utf8.decode s pos).1≤1114111∧((Utf8.decode s pos).1<55296∨57344≤(Utf8.decode s pos).1):=by
 unfold Fine at h
 rw [decode_at] at h ⊢
 have h1:=decodeN_fine _ _ (s.get! (pos+1)).toNat (s.get! (pos+2)).toNat (s.get! (pos+3)).toNat (show 0<s.size - pos by omega) (byte_lt s pos) h
 obtain⟨a,b,c,d,e⟩:=h1
 exact⟨a,by omega,c,d,e⟩
theorem encode_size (r:Nat) (h:r≤1114111) (hv:r<55296∨57344≤r):(Utf8.encode (r:Int)).size=encLen r:=by
 have v:Utf8.valid (r:Int)=true:=by simp [Utf8.valid];omega
 unfold Utf8.encode encLen
 simp only [v,if_true,Int.toNat_natCast]
 repeat' split
 all_goals first | rfl | omega
theorem decodeN_same (n m b0 b1 b2 b3 c1 c2 c3:Nat) (hn:0<n) (hm:(decodeN n b0 b1 b2 b3).2≤m) (hf:¬ ((decodeN n b0 b1 b2 b3).1=65533∧(decodeN n b0 b1 b2 b3).2=1))
  (h1:2≤(decodeN n b0 b1 b2 b3).2→b1=c1) (h2:3≤(decodeN n b0 b1 b2 b3).2→b2=c2) (h3:4≤(decodeN n b0 b1 b2 b3).2→b3=c3):decodeN m b0 c1 c2 c3=decodeN n b0 b1 b2 b3:=by
 unfold decodeN at hm hf h1 h2 h3 ⊢
 by_cases q0:b0<128
 · simp [q0]
 simp only [q0,if_false] at hm hf h1 h2 h3 ⊢
 by_cases q1:b0 / 32=6∧(1<n∧b1 / 64=2)
 ·
  simp only [q1,and_self,if_true] at hm hf h1 h2 h3 ⊢
  by_cases q2:b0 % 32*64+b1 % 64 ≥ 128
  ·
   simp only [q2,if_true] at hm h1 ⊢
   have e1:=h1 (by omega)
   subst e1
   have hm1:1<m:=by omega
   simp [q1,hm1,q2]
  · simp [q2] at hf
 simp only [q1,if_false] at hm hf h1 h2 h3 ⊢
 by_cases q3:b0 / 16=14∧(1<n∧b1 / 64=2)∧(2<n∧b2 / 64=2)
 ·
  have hne:¬ b0 / 32=6:=by omega
  simp only [q3,and_self,if_true] at hm hf h1 h2 h3 ⊢
  split at hf
  ·
   rename_i q4
   simp only [q4,and_self,if_true,true_and] at hm h1 h2 ⊢
   have e1:=h1 (by omega)
   have e2:=h2 (by omega)
   subst e1 e2
   have hm1:1<m:=by omega
   have hm2:2<m:=by omega
   simp [q3,hm1,hm2,hne,q4]
  · simp at hf
 simp only [q3,if_false] at hm hf h1 h2 h3 ⊢
 by_cases q5:b0 / 8=30∧(1<n∧b1 / 64=2)∧(2<n∧b2 / 64=2)∧(3<n∧b3 / 64=2)
 ·
  have hne:¬ b0 / 32=6:=by omega
  have hne2:¬ b0 / 16=14:=by omega
  simp only [q5,and_self,if_true] at hm hf h1 h2 h3 ⊢
  split at hf
  ·
   rename_i q4
   simp only [q4,and_self,if_true,true_and] at hm h1 h2 h3 ⊢
   have e1:=h1 (by omega)
   have e2:=h2 (by omega)
   have e3:=h3 (by omega)
   subst e1 e2 e3
   have hm1:1<m:=by omega
   have hm2:2<m:=by omega
   have hm3:3<m:=by omega
   simp [q5,hm1,hm2,hm3,hne,hne2,q4]
  · simp at hf
 · simp [q5] at hf
def byteOf (r:Nat):Nat→Nat
 | 0=>if r<128 then r else if r<2048 then 192+r / 64 else if r<65536 then 224+r / 4096 else 240+r / 262144
 | 1=>if r<2048 then 128+r % 64 else if r<65536 then 128+r / 64 % 64 else 128+r / 4096 % 64
 | 2=>if r<65536 then 128+r % 64 else 128+r / 64 % 64
 | _=>128+r % 64
theorem decodeN_inv (n b0 b1 b2 b3:Nat) (z0:b0<256) (x1:b1<256) (x2:b2<256) (x3:b3<256) (hf:¬ ((decodeN n b0 b1 b2 b3).1=65533∧(decodeN n b0 b1 b2 b3).2=1)) :
  b0=byteOf (decodeN n b0 b1 b2 b3).1 0∧(2≤(decodeN n b0 b1 b2 b3).2→b1=byteOf (decodeN n b0 b1 b2 b3).1 1)∧(3≤(decodeN n b0 b1 b2 b3).2→b2=byteOf (decodeN n b0 b1 b2 b3).1 2)∧(4≤(decodeN n b0 b1 b2 b3).2→b3=byteOf (decodeN n b0 b1 b2 b3).1 3):=by
 unfold decodeN at hf ⊢
 by_cases q0:b0<128
 · simp [q0,byteOf]
 simp only [q0,if_false] at hf ⊢
 by_cases q1:b0 / 32=6∧(1<n∧b1 / 64=2)
 ·
  simp only [q1,and_self,if_true] at hf ⊢
  by_cases q2:b0 % 32*64+b1 % 64 ≥ 128
  ·
   simp only [q2,if_true]
   have h1:b0 % 32*64+b1 % 64<2048:=by omega
   have h2:¬ b0 % 32*64+b1 % 64<128:=by omega
   refine⟨?_,fun _=>?_,fun h=>by omega,fun h=>by omega⟩
   · simp only [byteOf];rw [if_neg h2,if_pos h1];omega
   · simp only [byteOf];rw [if_pos h1];omega
  · simp [q2] at hf
 simp only [q1,if_false] at hf ⊢
 by_cases q3:b0 / 16=14∧(1<n∧b1 / 64=2)∧(2<n∧b2 / 64=2)
 ·
  simp only [q3,and_self,if_true] at hf ⊢
  split at hf
  ·
   rename_i q4
   simp only [q4,and_self,if_true,true_and]
   have h1:b0 % 16*4096+b1 % 64*64+b2 % 64<65536:=by omega
   have h2:¬ b0 % 16*4096+b1 % 64*64+b2 % 64<2048:=by omega
   have h3:¬ b0 % 16*4096+b1 % 64*64+b2 % 64<128:=by omega
   refine⟨?_,fun _=>?_,fun _=>?_,fun h=>by omega⟩
   · simp only [byteOf];rw [if_neg h3,if_neg h2,if_pos h1];omega
   · simp only [byteOf];rw [if_neg h2,if_pos h1];omega
   · simp only [byteOf];rw [if_pos h1];omega
  · simp at hf
 simp only [q3,if_false] at hf ⊢
 by_cases q5:b0 / 8=30∧(1<n∧b1 / 64=2)∧(2<n∧b2 / 64=2)∧(3<n∧b3 / 64=2)
 ·
  simp only [q5,and_self,if_true] at hf ⊢
  split at hf
  ·
   rename_i q4
   simp only [q4,and_self,if_true,true_and]
   have h1:¬ b0 % 8*262144+b1 % 64*4096+b2 % 64*64+b3 % 64<65536:=by omega
   have h2:¬ b0 % 8*262144+b1 % 64*4096+b2 % 64*64+b3 % 64<2048:=by omega
   have h3:¬ b0 % 8*262144+b1 % 64*4096+b2 % 64*64+b3 % 64<128:=by omega
   refine⟨?_,fun _=>?_,fun _=>?_,fun _=>?_⟩
   · simp only [byteOf];rw [if_neg h3,if_neg h2,if_neg h1];omega
   · simp only [byteOf];rw [if_neg h2,if_neg h1];omega
   · simp only [byteOf];rw [if_neg h1];omega
   · simp only [byteOf];omega
  · simp at hf
 · simp [q5] at hf
theorem get_lt {s:ByteArray} {i:Nat} (h:i<s.size):s.get! i=s[i]'h:=by
 show s.data[i]! = _
 rw [getElem!_pos s.data i h]
 rfl
theorem extract_eq {a b:ByteArray} {p q:Nat} (hpq:p≤q) (ha:q≤a.size) (hb:q≤b.size):a.extract p q=b.extract p q ↔ ∀ j,j<q - p→a.get! (p+j)=b.get! (p+j):=by
 constructor
 ·
  intro h j hj
  have h1:(a.extract p q).data[j]?=(b.extract p q).data[j]?:=by rw [h]
  simp only [ByteArray.data_extract,Array.getElem?_extract] at h1
  rw [if_pos (by have:a.data.size=a.size:=rfl;omega),if_pos (by have:b.data.size=b.size:=rfl;omega)] at h1
  have ea:a.data[p+j]?=some (a.get! (p+j)):=by rw [get_lt (by omega)];exact Array.getElem?_eq_getElem (by have:a.data.size=a.size:=rfl;omega)
  have eb:b.data[p+j]?=some (b.get! (p+j)):=by rw [get_lt (by omega)];exact Array.getElem?_eq_getElem (by have:b.data.size=b.size:=rfl;omega)
  rw [ea,eb] at h1
  exact Option.some.inj h1
 ·
  intro h
  apply ByteArray.ext
  apply Array.ext_getElem?
  intro j
  simp only [ByteArray.data_extract,Array.getElem?_extract]
  by_cases hj:j<q - p
  ·
   rw [if_pos (by have:a.data.size=a.size:=rfl;omega),if_pos (by have:b.data.size=b.size:=rfl;omega)]
   have ea:a.data[p+j]?=some (a.get! (p+j)):=by rw [get_lt (by omega)];exact Array.getElem?_eq_getElem (by have:a.data.size=a.size:=rfl;omega)
   have eb:b.data[p+j]?=some (b.get! (p+j)):=by rw [get_lt (by omega)];exact Array.getElem?_eq_getElem (by have:b.data.size=b.size:=rfl;omega)
   rw [ea,eb,h j hj]
  · rw [if_neg (by have:a.data.size=a.size:=rfl;omega),if_neg (by have:b.data.size=b.size:=rfl;omega)]
theorem same_rune {a b:ByteArray} {pos:Nat} (ha:pos<a.size) (hb:pos<b.size) (fa:Fine a pos) (fb:Fine b pos) :
  (pos+(Utf8.decode a pos).2≤b.size∧a.extract pos (pos+(Utf8.decode a pos).2)=b.extract pos (pos+(Utf8.decode a pos).2)) ↔ (Utf8.decode a pos).1=(Utf8.decode b pos).1:=by
 have la:=fine_len ha fa
 have lb:=fine_len hb fb
 constructor
 ·
  rintro⟨h1,h2⟩
  have h3:=(extract_eq (by omega) la.2.1 h1).1 h2
  have hd:Utf8.decode b pos=Utf8.decode a pos:=by
   unfold Fine at fa
   rw [decode_at b,decode_at a]
   rw [decode_at a] at fa h3 h1 la
   have e0:=h3 0 (by omega)
   rw [Nat.add_zero] at e0
   rw [←e0]
   exact decodeN_same _ _ _ _ _ _ _ _ _ (by omega) (by omega) fa (fun h=>by rw [h3 1 (by omega)]) (fun h=>by rw [h3 2 (by omega)]) (fun h=>by rw [h3 3 (by omega)])
  rw [hd]
 ·
  intro he
  have hw:(Utf8.decode a pos).2=(Utf8.decode b pos).2:=by rw [la.1,lb.1,he]
  refine⟨by rw [hw];exact lb.2.1,(extract_eq (by omega) la.2.1 (by rw [hw];exact lb.2.1)).2 fun j hj=>?_⟩
  unfold Fine at fa fb
  have la4:(Utf8.decode a pos).2≤4:=by rw [la.1];exact encLen_le _
  rw [decode_at a] at fa la4 hj
  rw [decode_at b] at fb
  rw [decode_at a,decode_at b] at he hw
  have i1:=decodeN_inv _ _ _ _ _ (byte_lt a pos) (byte_lt a (pos+1)) (byte_lt a (pos+2)) (byte_lt a (pos+3)) fa
  have i2:=decodeN_inv _ _ _ _ _ (byte_lt b pos) (byte_lt b (pos+1)) (byte_lt b (pos+2)) (byte_lt b (pos+3)) fb
  rw [←he,←hw] at i2
  have key:(a.get! (pos+j)).toNat=(b.get! (pos+j)).toNat:=by
   rcases Nat.lt_or_ge j 1 with h | h
   ·
    obtain rfl:j=0:=by omega
    rw [Nat.add_zero,i1.1,←i2.1]
   ·
    rcases Nat.lt_or_ge j 2 with h | h
    ·
     obtain rfl:j=1:=by omega
     rw [i1.2.1 (by omega),←i2.2.1 (by omega)]
    ·
     rcases Nat.lt_or_ge j 3 with h | h
     ·
      obtain rfl:j=2:=by omega
      rw [i1.2.2.1 (by omega),←i2.2.2.1 (by omega)]
     ·
      obtain rfl:j=3:=by omega
      rw [i1.2.2.2 (by omega),←i2.2.2.2 (by omega)]
  exact UInt8.toNat_inj.1 key
def wellFrom (s:ByteArray):Nat→Nat→Prop
 | 0,_=>True
 | f+1,pos=>pos<s.size→Fine s pos∧wellFrom s f (pos+(Utf8.decode s pos).2)
def Well (s:ByteArray):Prop:=wellFrom s s.size 0
def sharedR:List Int→List Int→Nat
 | x::xs,y::ys=>if x=y then encLen x.toNat+sharedR xs ys else 0
 | _,_=>0
def sharedF (a b:ByteArray):Nat:=sharedR (runesOf a) (runesOf b)
theorem well_step {s:ByteArray} {f pos:Nat} (h:wellFrom s (f+1) pos) (hp:pos<s.size):Fine s pos∧wellFrom s f (pos+(Utf8.decode s pos).2):=h hp
theorem sharedR_le:∀ (xs ys:List Int) (s:ByteArray) (f pos:Nat),xs=runesFrom s f pos→wellFrom s f pos→pos≤s.size→pos+sharedR xs ys≤s.size
 | [],_,_,_,_,_,_,h=>by simpa [sharedR] using h
 | x::xs,[],_,_,_,_,_,h=>by simpa [sharedR] using h
 | x::xs,y::ys,s,f,pos,hx,hw,h=>by
  unfold sharedR
  split
  ·
   cases f with
   | zero=>simp [runesFrom] at hx
   | succ f=>
    by_cases hp:pos<s.size
    ·
     rw [runesFrom_step s f hp] at hx
     injection hx with h1 h2
     obtain⟨w1,w2⟩:=hw hp
     have hl:=fine_len hp w1
     have:=sharedR_le xs ys s f _ h2 w2 hl.2.1
     subst h1
     rw [Int.toNat_natCast,←hl.1]
     omega
    ·
     rw [runesFrom_end s (f+1) hp] at hx
     cases hx
  · simpa using h
theorem sharedF_le {a:ByteArray} (b:ByteArray) (h:Well a):sharedF a b≤a.size:=by
 have:=sharedR_le (runesOf a) (runesOf b) a a.size 0 rfl h (Nat.zero_le _)
 unfold sharedF
 omega
end Go.Proofs.YtpeoonnglnchnaaGreatDoor.Tab
