/- PkMrkBytes. -/
import Derived.Test.YtpeoonnglnchnaaGreatDoorRefBytes
import Derived.Test.YtpeoonnglnchnaaGreatDoorConKnown
import Derived.Test.YtpeoonnglnchnaaGreatDoorPkTabSvPut
set_option linter.unusedSectionVars false
set_option linter.unusedSimpArgs false
set_option linter.unusedVariables false
set_option maxHeartbeats 16000000
set_option maxRecDepth 100000
namespace Go.Proofs.YtpeoonnglnchnaaGreatDoor.Mrk
open RowKit YtpeoonnglnchnaaGreatDoor.Spare RegInv Mut
variable [Inhabited Lim]
def bytesM (m : Mu) : List Nat := textF m.key ++ restL m.table.toNat m.kind.toNat m.expiry.toNat m.at_.p.toNat m.at_.l.toNat m.at_.w.toNat m.fin m.val m.over
structure NumM (m : Mu) : Prop where
  t : 0 <= m.table /\ m.table < 9223372036854775808
  k : 0 <= m.kind /\ m.kind < 9223372036854775808
  e : 0 <= m.expiry /\ m.expiry < 9223372036854775808
  at_ : NumS m.at_
  key : m.key.size <= 1000
  fin : m.fin.size <= 1000
  val : m.val.size <= 1000
  len : m.over.length <= 1000
  over : ∀ s ∈ m.over, NumS s
theorem num_st {s : Stp} (h : stR s = true) : NumS s := by
  unfold stR at h
  simp only [Bool.and_eq_true, decide_eq_true_eq] at h
  obtain ⟨⟨⟨⟨⟨⟨h1, h2⟩, h3⟩, h4⟩, h5⟩, h6⟩, -⟩ := h
  exact ⟨h1, h2, h3, by omega, by omega, by omega⟩
theorem num_over (t : Stp) : ∀ (l : List Stp) (p : Option Stp), overFrom t p l = true -> ∀ s ∈ l, NumS s
  | [], _, _ => fun s hs => by simp at hs
  | x :: l, p, h => fun s hs => by
    unfold overFrom at h
    simp only [Bool.and_eq_true] at h
    rcases List.mem_cons.1 hs with rfl | hs
    . exact num_st h.1
    . exact num_over t l (some x) h.2.2.2 s hs
theorem num_right {m : Mu} (h : rightF m = true) : NumM m := by
  unfold rightF rightG at h
  simp only [Bool.and_eq_true, Bool.not_eq_true', Bool.or_eq_false_iff, Bool.and_eq_false_iff, decide_eq_true_eq, decide_eq_false_iff_not, Bool.not_eq_false'] at h
  obtain ⟨h1, h2, h3, ⟨e1, e2, -⟩, h4, h5, h6⟩ := h
  have k1 := keyF_size h2
  have k2 := valF_size h4.2
  unfold overF at h3
  simp only [Bool.and_eq_true, decide_eq_true_eq] at h3
  have k4 : m.fin.size <= 24 := by
    by_cases hk : m.kind = 3
    . rcases h5.2 with h | h
      . exact absurd hk h
      . exact keyF_size h.1
    . rcases h5.1 with h | h
      . exact absurd h hk
      . have := empty_size h; omega
  have k5 : (m.table = 1 \/ m.table = 2) /\ 1 <= m.kind /\ m.kind <= 3 := by
    by_cases t1 : m.table = 1
    . rw [if_pos t1] at h6
      simp only [Bool.and_eq_true, decide_eq_true_eq] at h6
      exact ⟨Or.inl t1, h6.2.1, h6.2.2⟩
    . rw [if_neg t1] at h6
      by_cases t2 : m.table = 2
      . rw [if_pos t2] at h6
        simp only [Bool.or_eq_true, decide_eq_true_eq] at h6
        exact ⟨Or.inr t2, by omega, by omega⟩
      . rw [if_neg t2] at h6; cases h6
  exact ⟨by omega, by omega, by omega, num_st h1, by omega, by omega, by omega, by omega, num_over _ _ _ h3.1⟩
theorem strL_byte (s : ByteArray) : ∀ c ∈ strL s, c < 256 := by
  intro c hc
  unfold strL at hc
  obtain ⟨b, _, rfl⟩ := List.mem_map.1 hc
  exact b.toNat_lt
theorem bytesM_byte (m : Mu) : ∀ c ∈ bytesM m, c < 256 := by
  intro c hc
  unfold bytesM restL textF at hc
  simp only [List.mem_append, List.mem_flatMap] at hc
  rcases hc with (h | h) | h | h | (h | h) | (h | h) | h | h | h | h | h | ⟨s, _, h⟩
  all_goals first
    | exact putF_lt _ c h
    | exact strL_byte _ c h
    | (unfold stF at h
       simp only [List.mem_append] at h
       rcases h with h | h | h <;> exact putF_lt _ c h)
def BytesPost (w : World) (l : List Nat) (e : Ending) (w' : World) : Prop := ∃ v, e = .returned v /\ BRow w' v l /\ Below w.heap.size w w'
theorem mutbytes_any (x : Ro) (w : World) (hx : Over w x) (hn : NumM x.1) : Calls Tryz.prog 116 #[.slice none 0 0, vM x] w (BytesPost w (bytesM x.1)) := by
  obtain ⟨⟨tb, kd, key, fin, val, ex, ⟨p, l, h⟩, over⟩, ov⟩ := x
  obtain ⟨⟨t0, t1⟩, ⟨k0, k1⟩, ⟨e0, e1⟩, ⟨p0, l0, w0, p1, l1, w1⟩, s1, s2, s3, s4, s5⟩ := hn
  simp only [] at t0 t1 k0 k1 e0 e1 p0 l0 w0 p1 l1 w1 s1 s2 s3 s4 s5
  obtain ⟨tb, rfl⟩ := Int.eq_ofNat_of_zero_le t0
  obtain ⟨kd, rfl⟩ := Int.eq_ofNat_of_zero_le k0
  obtain ⟨ex, rfl⟩ := Int.eq_ofNat_of_zero_le e0
  obtain ⟨p, rfl⟩ := Int.eq_ofNat_of_zero_le p0
  obtain ⟨l, rfl⟩ := Int.eq_ofNat_of_zero_le l0
  obtain ⟨h, rfl⟩ := Int.eq_ofNat_of_zero_le w0
  refine (mutput_onto tb kd ex p l h key fin val over ov w (.slice none 0 0) [] w (by omega) (by omega) (by omega) (by omega) (by omega) (by omega) s1 s2 s3 s4 s5 hx.lst br (World.ownsRow_nil _ _ _ _) (by simp)).mono ?_
  rintro e w' ⟨v', rfl, g1, g2, -⟩
  exact ⟨v', rfl, row_of g1, ⟨g2.os, g2.tape, g2.output, g2.size, fun i hi => g2.block i hi (by simp [Value.ownBlock])⟩⟩
theorem refmutbytes_any (x : Ro) (w : World) (hx : Over w x) (hn : NumM x.1) : Calls Tryz.prog 138 #[vM x] w (BytesPost w (bytesM x.1)) := by
  obtain ⟨⟨tb, kd, key, fin, val, ex, ⟨p, l, h⟩, over⟩, ov⟩ := x
  obtain ⟨⟨t0, t1⟩, ⟨k0, k1⟩, ⟨e0, e1⟩, ⟨p0, l0, w0, p1, l1, w1⟩, s1, s2, s3, s4, s5⟩ := hn
  simp only [] at t0 t1 k0 k1 e0 e1 p0 l0 w0 p1 l1 w1 s1 s2 s3 s4 s5
  obtain ⟨tb, rfl⟩ := Int.eq_ofNat_of_zero_le t0
  obtain ⟨kd, rfl⟩ := Int.eq_ofNat_of_zero_le k0
  obtain ⟨ex, rfl⟩ := Int.eq_ofNat_of_zero_le e0
  obtain ⟨p, rfl⟩ := Int.eq_ofNat_of_zero_le p0
  obtain ⟨l, rfl⟩ := Int.eq_ofNat_of_zero_le l0
  obtain ⟨h, rfl⟩ := Int.eq_ofNat_of_zero_le w0
  refine (refmutput_any tb kd ex p l h key fin val over ov w (by omega) (by omega) (by omega) (by omega) (by omega) (by omega) s1 s2 s3 s4 s5 hx.lst).mono ?_
  rintro e w' ⟨v', rfl, g1, g2⟩
  exact ⟨v', rfl, row_of g1, g2⟩
end Go.Proofs.YtpeoonnglnchnaaGreatDoor.Mrk
namespace Go.Proofs.YtpeoonnglnchnaaGreatDoor.Rd
open Go Mrk Mut
theorem fold_push:∀ (l:List UInt8) (acc:ByteArray),((l.map fun b=>b.toNat).map fun c:Nat=>(c:Int)).foldl (fun r n=>r.push (UInt8.ofNat n.toNat)) acc=⟨acc.data++l.toArray⟩
 | [],acc=>by simp
 | b::l,acc=>by
  rw [List.map_cons,List.map_cons,List.foldl_cons,fold_push l]
  have e:UInt8.ofNat ((b.toNat:Int)).toNat=b:=by simp
  rw [e]
  show (⟨(acc.data.push b)++l.toArray⟩:ByteArray)=_
  congr 1
  simp
theorem strOf_back (s:ByteArray):strOf (strL s)=s:=by
 unfold strOf strL
 rw [fold_push]
 obtain⟨⟨l⟩⟩:=s
 have e:ByteArray.empty.data=#[]:=rfl
 rw [e]
 congr 1
 simp
theorem text_back (pre post:List Nat) (s:ByteArray) (most:Int) (hs:(s.size:Int)<=most) (hz:s.size<4611686018427387904):textS (pre++(textF s++post)) most (pre.length,0)=(s,(pre.length+(textF s).length,0)):=by
 have h1:=num_back pre (strL s++post) s.size hz
 have e:pre++(putF s.size++(strL s++post))=pre++(textF s++post):=by unfold textF;simp
 rw [e] at h1
 obtain⟨B,hB⟩:∃ B,B=pre++(textF s++post):=⟨_,rfl⟩
 have hB2:B=(pre++putF s.size)++(strL s++post):=by rw [hB,<-e];simp
 rw [<-hB] at h1 ⊢
 have hl:(strL s).length=s.size:=strL_len s
 unfold textS
 rw [h1]
 show (if (0:Int)=0 then (if most<((s.size:Nat):Int) then (ByteArray.empty,((pre.length,(31:Int)):S)) else if B.length - (pre.length+(putF s.size).length)<s.size then (ByteArray.empty,(pre.length,(30:Int))) else (strOf ((B.drop (pre.length+(putF s.size).length)).take s.size),(pre.length+(putF s.size).length+s.size,(0:Int)))) else (ByteArray.empty,(pre.length,(0:Int))))=_
 have hbl:B.length=pre.length+(putF s.size).length+s.size+post.length:=by rw [hB2];simp [hl];omega
 rw [if_pos rfl,if_neg (by omega),if_neg (by omega)]
 have hd:(B.drop (pre.length+(putF s.size).length)).take s.size=strL s:=by
  rw [hB2,<-la0,List.drop_left,<-hl,List.take_left]
 rw [hd,strOf_back]
 unfold textF
 rw [la0,hl]
 simp
 omega
theorem get_back (pre post:List Nat) (s:Stp) (h:NumS s) (h1:s.p<4611686018427387904) (h2:s.l<4611686018427387904) (h3:s.w<4611686018427387904) :
  getS (pre++(stF s++post)) (pre.length,0)=((s.p.toNat,s.l.toNat,s.w.toNat),(pre.length+(stF s).length,0)):=by
 obtain⟨p0,l0,w0,-,-,-⟩:=h
 have e1:=num_back pre (putF s.l.toNat++(putF s.w.toNat++post)) s.p.toNat (by omega)
 have e2:=num_back (pre++putF s.p.toNat) (putF s.w.toNat++post) s.l.toNat (by omega)
 have e3:=num_back (pre++putF s.p.toNat++putF s.l.toNat) post s.w.toNat (by omega)
 have f1:pre++(putF s.p.toNat++(putF s.l.toNat++(putF s.w.toNat++post)))=pre++(stF s++post):=by unfold stF;simp
 have f2:(pre++putF s.p.toNat)++(putF s.l.toNat++(putF s.w.toNat++post))=pre++(stF s++post):=by unfold stF;simp
 have f3:(pre++putF s.p.toNat++putF s.l.toNat)++(putF s.w.toNat++post)=pre++(stF s++post):=by unfold stF;simp
 rw [f1] at e1
 rw [f2] at e2
 rw [f3] at e3
 rw [la0] at e2
 rw [la0,la0] at e3
 unfold getS
 rw [e1,e2,e3]
 unfold stF
 simp
 omega
theorem count_back (pre post:List Nat) (n:Nat) (most:Int) (hn:n<4611686018427387904) (hm:(n:Int)<=most):countS (pre++(putF n++post)) most (pre.length,0)=(n,(pre.length+(putF n).length,0)):=by
 unfold countS
 rw [num_back pre post n hn]
 rw [if_pos rfl,if_neg (by show ¬ most<(n:Int);omega)]
theorem stOf_back {s:Stp} (h:NumS s):stOf (s.p.toNat,s.l.toNat,s.w.toNat)=s:=by
 obtain⟨p0,l0,w0,-,-,-⟩:=h
 obtain⟨p,l,w⟩:=s
 unfold stOf
 simp only [Stp.mk.injEq]
 exact⟨Int.toNat_of_nonneg p0,Int.toNat_of_nonneg l0,Int.toNat_of_nonneg w0⟩
structure LowS (s:Stp):Prop where
 n:NumS s
 p:s.p<4611686018427387904
 l:s.l<4611686018427387904
 w:s.w<4611686018427387904
theorem overs_back:∀ (l:List Stp) (pre post:List Nat),(∀ s∈l,LowS s)->oversS (pre++(l.flatMap stF++post)) l.length (pre.length,0)=(l,(pre.length+(l.flatMap stF).length,0))
 | [],pre,post,_=>by simp [oversS]
 | s::l,pre,post,h=>by
  have hs:=h s (by simp)
  have h1:=get_back pre (l.flatMap stF++post) s hs.n hs.p hs.l hs.w
  have h2:=overs_back l (pre++stF s) post fun x hx=>h x (by simp [hx])
  have e1:pre++(stF s++(l.flatMap stF++post))=pre++((s::l).flatMap stF++post):=by simp
  have e2:(pre++stF s)++(l.flatMap stF++post)=pre++((s::l).flatMap stF++post):=by simp
  rw [e1] at h1
  rw [e2,la0] at h2
  rw [List.length_cons,oversS,h1]
  show (stOf _::(oversS _ l.length (pre.length+(stF s).length,0)).1,(oversS _ l.length (pre.length+(stF s).length,0)).2)=_
  rw [h2,stOf_back hs.n]
  simp
  omega
end Go.Proofs.YtpeoonnglnchnaaGreatDoor.Rd
namespace Go.Proofs.YtpeoonnglnchnaaGreatDoor.Mrk
open Go.Lib (hid)
open RowKit YtpeoonnglnchnaaGreatDoor.Spare RegInv Mut
variable [Inhabited Lim]
def bytesR (l:List Mu):List Nat:=putF l.length++l.flatMap bytesM
theorem put_ro (x:Ro) (wb w:World) (v:Value) (bs:List Nat) (hx:Over wb x) (hn:NumM x.1) (hbw:Below wb.heap.size wb w) (hv:OwnB w wb.heap.size v bs) (hbs:bs.length<=600000) :
  Calls Tryz.prog 116 #[v,vM x] w (OnPost wb.heap.size v (bs++bytesM x.1) w):=by
 obtain⟨⟨tb,kd,key,fin,val,ex,⟨p,l,h⟩,over⟩,ov⟩:=x
 obtain⟨⟨t0,t1⟩,⟨k0,k1⟩,⟨e0,e1⟩,⟨p0,l0,w0,p1,l1,w1⟩,s1,s2,s3,s4,s5⟩:=hn
 simp only [] at t0 t1 k0 k1 e0 e1 p0 l0 w0 p1 l1 w1 s1 s2 s3 s4 s5
 obtain⟨tb,rfl⟩:=Int.eq_ofNat_of_zero_le t0
 obtain⟨kd,rfl⟩:=Int.eq_ofNat_of_zero_le k0
 obtain⟨ex,rfl⟩:=Int.eq_ofNat_of_zero_le e0
 obtain⟨p,rfl⟩:=Int.eq_ofNat_of_zero_le p0
 obtain⟨l,rfl⟩:=Int.eq_ofNat_of_zero_le l0
 obtain⟨h,rfl⟩:=Int.eq_ofNat_of_zero_le w0
 exact mutput_onto tb kd ex p l h key fin val over ov wb v bs w (by omega) (by omega) (by omega) (by omega) (by omega) (by omega) s1 s2 s3 s4 s5 hx.lst hbw hv hbs
theorem all_any (bs:List Nat) (v rv:Value) (R:List Ro) (w:World) (hr:MRow w rv R) (hnum:∀ x∈R,NumM x.1) (hn:R.length<=500) (hsmall:(bs++bytesR (R.map (·.1))).length<=550000)
  (hput:Calls Tryz.prog 43 #[v,.int .i64 (R.length:Nat)] w fun e w'=>∃ v',e=.returned v'/\OwnB w' w.heap.size v' (bs++putF R.length)/\Below w.heap.size w w') :
  Calls Tryz.prog 85 #[v,rv] w fun e w'=>∃ v',e=.returned v'/\OwnB w' w.heap.size v' (bs++bytesR (R.map (·.1)))/\Below w.heap.size w w':=by
 obtain⟨ro,cap,rfl,-,-⟩:=hr.form
 obtain⟨n,hnr⟩:∃ k,k=R.length:=⟨_,rfl⟩
 rw [<-hnr] at hr hn hput ⊢
 have HR:=hid hr
 have HN:=hid hnr
 have HNU:=hid hnum
 have HP:=hid hput
 obtain⟨Q,hQ⟩:∃ Q,Q=bs++bytesR (R.map (·.1)):=⟨_,rfl⟩
 rw [<-hQ] at hsmall ⊢
 have HQ:=hid (show Q=(bs++putF n)++(R.map (·.1)).flatMap bytesM from by rw [hQ];unfold bytesR;rw [lm0,<-hnr,List.append_assoc])
 clear hr hnr hnum hput hQ
 go_enter Tryz.func85,Tryz.ntmps85
 go_wp2_with fail
 refine HP.out.mono ?_
 rintro e w1 ⟨v1,rfl,ho1,hb1⟩
 have HO1:=hid ho1
 have HB1:=hid hb1
 clear ho1 hb1 HP
 go_wp2_with fail
 go_loopw [0,13] (fun ov iv wr=>∃ k:Nat,k<=n/\iv=.int .i64 k/\Hid (OwnB wr w.heap.size ov ((bs++putF n)++((R.take k).map (·.1)).flatMap bytesM))/\Hid (Below w.heap.size w wr)) (fun _ iv _=>n - (intOf iv).toNat)
 case atStart=>exact⟨0,by omega,rfl,hid (by simpa using HO1.out),HB1⟩
 case round=>
  obtain⟨k,hk,rfl,ho,hb⟩:=hrel
  by_cases hlt:k<n
  ·
   have hkr:k<R.length:=by have:=HN.out;omega
   obtain⟨x,hx⟩:∃ x,R[k]?=some x:=⟨_,ge0 hkr⟩
   have hmr:MRow wr (.slice ro n cap) R:=HR.out.below hb.out
   obtain⟨xb,xoff,hao,hat⟩:=hmr.at_ hx
   cases hao
   have hxm:=mg0 hx
   have hov0:=HR.out.over x hxm
   obtain⟨xo,xc,xe,-,-⟩:=Over.form hov0
   have HOV:=hid hov0
   have HNX:=hid (HNU.out x hxm)
   have HXE:=hid xe
   obtain⟨bk,hbk⟩:∃ b,b=(bs++putF n)++((R.take k).map (·.1)).flatMap bytesM:=⟨_,rfl⟩
   have HBK:=hid (show (bs++putF n)++((R.take (k+1)).map (·.1)).flatMap bytesM=bk++bytesM x.1 from by
    rw [hbk,List.take_add_one,hx];simp)
   have HBL:=hid (show bk.length<=600000 from by
    have h1:(((R.take k).map (·.1)).flatMap bytesM).length<=((R.map (·.1)).flatMap bytesM).length:=by
     conv=>rhs;rw [<-List.take_append_drop k R]
     rw [List.map_append,fa0,la0]
     omega
    have h2:=congrArg List.length HQ.out
    rw [la0] at h2
    rw [hbk,la0]
    omega)
   rw [<-hbk] at ho
   obtain⟨hbl0,a0,a1,a2,a3,a4,a5,a6,a7,a8,a9⟩:=hat
   rw [xe] at a9
   have j0:(0:Int)<=(k:Int):=by omega
   have j1:(k:Int)<(n:Int):=by omega
   clear hmr hx hxm hov0 xe hbk hkr
   go_upto_region 5 with fail
   obtain⟨W2,hW2⟩:∃ W,W=wr.alloc (.cells #[.int .i64 x.1.table,.int .i64 x.1.kind,.string x.1.key,.string x.1.fin,.string x.1.val,.int .i64 x.1.expiry,.int .i64 x.1.at_.p,.int .i64 x.1.at_.l,.int .i64 x.1.at_.w,.slice xo x.1.over.length xc] 42):=⟨_,rfl⟩
   rw [<-hW2]
   obtain⟨nv,hnv⟩:∃ k,k=wr.heap.size:=⟨_,rfl⟩
   rw [<-hnv]
   have hb2:Below wr.heap.size wr W2:=by rw [hW2];exact (Below.refl _ wr).alloc lr _
   have hbx:W2.heap[nv]?=some (.cells #[.int .i64 x.1.table,.int .i64 x.1.kind,.string x.1.key,.string x.1.fin,.string x.1.val,.int .i64 x.1.expiry,.int .i64 x.1.at_.p,.int .i64 x.1.at_.l,.int .i64 x.1.at_.w,.slice xo x.1.over.length xc] 42 (0,0)):=by rw [hW2,hnv];exact heap_alloc_new wr _
   have HO2:=hid (ho.out.below hb2)
   have HB2:=hid (below_then hb.out lr hb2)
   have m0:W2.cell? ⟨nv,0,none⟩=some (.int .i64 x.1.table):=by rw [cell_of_row W2 nv 0 _ _ (0,0) hbx];rfl
   have m1:W2.cell? ⟨nv,1,none⟩=some (.int .i64 x.1.kind):=by rw [cell_of_row W2 nv 1 _ _ (0,0) hbx];rfl
   have m2:W2.cell? ⟨nv,2,none⟩=some (.string x.1.key):=by rw [cell_of_row W2 nv 2 _ _ (0,0) hbx];rfl
   have m3:W2.cell? ⟨nv,3,none⟩=some (.string x.1.fin):=by rw [cell_of_row W2 nv 3 _ _ (0,0) hbx];rfl
   have m4:W2.cell? ⟨nv,4,none⟩=some (.string x.1.val):=by rw [cell_of_row W2 nv 4 _ _ (0,0) hbx];rfl
   have m5:W2.cell? ⟨nv,5,none⟩=some (.int .i64 x.1.expiry):=by rw [cell_of_row W2 nv 5 _ _ (0,0) hbx];rfl
   have m6:W2.cell? ⟨nv,6,none⟩=some (.int .i64 x.1.at_.p):=by rw [cell_of_row W2 nv 6 _ _ (0,0) hbx];rfl
   have m7:W2.cell? ⟨nv,7,none⟩=some (.int .i64 x.1.at_.l):=by rw [cell_of_row W2 nv 7 _ _ (0,0) hbx];rfl
   have m8:W2.cell? ⟨nv,8,none⟩=some (.int .i64 x.1.at_.w):=by rw [cell_of_row W2 nv 8 _ _ (0,0) hbx];rfl
   have m9:W2.cell? ⟨nv,9,none⟩=some (.slice xo x.1.over.length xc):=by rw [cell_of_row W2 nv 9 _ _ (0,0) hbx];rfl
   have HPU:=hid (put_ro x w W2 _ bk HOV.out HNX.out HB2.out HO2.out HBL.out)
   have hpu:=HPU.out
   unfold vM at hpu
   rw [HXE.out] at hpu
   have HPV:=hid hpu
   clear hpu HPU hW2 hb2 hbx hnv a0 a1 a2 a3 a4 a5 a6 a7 a8 a9 ho hb hbl0
   go_wp2_with fail
   refine HPV.out.mono ?_
   rintro e w3 ⟨v3,rfl,ho3,hg3,-⟩
   have HO3:=hid (show OwnB w3 w.heap.size v3 ((bs++putF n)++((R.take (k+1)).map (·.1)).flatMap bytesM) from by rw [HBK.out];exact ho3)
   have HB3:=hid (HB2.out.grown hg3 HB2.out.size (fun j hj=>(World.ownsRow.lt HO2.out j hj).1))
   clear ho3 hg3 m0 m1 m2 m3 m4 m5 m6 m7 m8 m9
   go_wp2_with fail
   go_roundw
   case rel=>exact⟨k+1,by omega,by go_num,HO3,HB3⟩
   case measure=>simp [intOf];omega
  ·
   obtain rfl:k=n:=by omega
   have HO9:=hid (show OwnB wr w.heap.size _ Q from by
    have h:=ho.out
    rw [List.take_of_length_le (by rw [HN.out];exact Nat.le_refl _),<-HQ.out] at h
    exact h)
   clear ho
   go_wp2_with fail
   go_ret
   exact⟨_,rfl,HO9.out,hb.out⟩
end Go.Proofs.YtpeoonnglnchnaaGreatDoor.Mrk
namespace Go.Proofs.YtpeoonnglnchnaaGreatDoor.Spare
open Go RowKit
section
variable {P : Program}
theorem run_append_spareAny (w:World) (base:Nat) (t ty e:TypeId) (i:TypeInfo) (z:Value) (zs:List Value) (bytes:Nat) (ht:P.underlying t=some (.slice e)) (hi:P.info? e=some i) (hz:i.zero=some z)
  (hzc:z.cells=zs.toArray) (hsize:i.size=zs.length) (hby:i.bytes=bytes) (hpos:0<zs.length)
  (v:Value) (n:Nat) (xs:List Value) (hs:Spare w base e zs v n xs)
  (xo:Option Addr) (m c:Nat) (news:List Value) (hl:news.length=m*zs.length) (hx:m=0\/∃ ad,xo=some ad/\∀ j u,news[j]?=some u->w.cell? (ad.add j)=some u) (h1:∀ u∈news,u.oneCell'=true)
  (h63:n+m<=maxLen) (hbytes:(n+m)*bytes<=140737488355328) (hbase:base<=w.heap.size) :
  ∃ v' w',(Builtin.append_ #[t,t] ty #[v,.slice xo m c]).run P w=.ok v' w'/\Spare w' base e zs v' (n+m) (xs++news)/\w.grownBy w' v.ownBlock/\Kept w w' zs v n/\SpareLoc w v v':=by
 by_cases hm:m=0
 ·
  subst hm
  obtain rfl:news=[]:=List.eq_nil_of_length_eq_zero (by simpa using hl)
  obtain⟨ao,cap,rfl⟩:=row_form hs.own
  have hcap:n<=cap:=by
   rcases hs.own.2 with ⟨e,_⟩ | ⟨g,c,cur,e,_,_,h3,_⟩
   . cases e;omega
   . cases e;exact h3
  have hsr:Src P i.size t (.slice xo 0 c) 0 [] w:=by
   cases xo with
   | none=>exact Src.ofNil w ht c
   | some a=>exact Src.ofSlice w ht a 0 c [] (by simp) (fun j u h=>by simp at h) (fun u h=>by cases h)
  exact⟨_,_,run_append_nothing w t t ty e i ht hi ao n cap hcap _ hsr,by simpa using hs,⟨rfl,rfl,rfl,Nat.le_refl _,fun _ _ _=>rfl⟩,fun b o u hc=>Or.inl hc,fun g hg=>Or.inl hg⟩
 ·
  rcases hx with h0 | ⟨ad,rfl,hx⟩
  . exact absurd h0 hm
  . exact run_append_spare (P:=P) w base t ty e i z zs bytes ht hi hz hzc hsize hby hpos v n xs hs ad m c news (Or.inl (by omega)) hl hx h1 h63 hbytes hbase
theorem wpList_append_spareAny {w:World} {ops:Array Oper} {rest:List Oper} {o:Oper} {a:Act} {Q:Exit->Act->World->Prop} (hgd:o.guard=none) (s x:Operand) (t:TypeId)
  (ho:o.op=.call { callee:=.builtin .append,args:=#[s,x],argTypes:=#[t,t] })
  (base:Nat) (e:TypeId) (i:TypeInfo) (z:Value) (zs:List Value) (bytes:Nat) (ht:P.underlying t=some (.slice e)) (hi:P.info? e=some i) (hz:i.zero=some z)
  (hzc:z.cells=zs.toArray) (hsize:i.size=zs.length) (hby:i.bytes=bytes) (hpos:0<zs.length)
  (v:Value) (n:Nat) (xs:List Value) (hs:a.eval s=v) (hown:Spare w base e zs v n xs)
  (xo:Option Addr) (m c:Nat) (news:List Value) (hxv:a.eval x=.slice xo m c) (hl:news.length=m*zs.length) (hx:m=0\/∃ ad,xo=some ad/\∀ j u,news[j]?=some u->w.cell? (ad.add j)=some u) (h1:∀ u∈news,u.oneCell'=true)
  (h63:n+m<=maxLen) (hbytes:(n+m)*bytes<=140737488355328) (hbase:base<=w.heap.size)
  (h:∀ v' w',Spare w' base e zs v' (n+m) (xs++news)->w.grownBy w' v.ownBlock->Kept w w' zs v n->SpareLoc w v v'->wpList P ops Q rest (a.put o.dst v') w'):wpList P ops Q (o::rest) a w:=by
 refine wpList_plain hgd fun K hK=>?_
 obtain⟨v',w',hr,q1,q2,q3,q4⟩:=run_append_spareAny (P:=P) w base t o.type e i z zs bytes ht hi hz hzc hsize hby hpos v n xs hown xo m c news hl hx h1 h63 hbytes hbase
 unfold Oper.wp execOp
 simp only [ho,resolve,invoke,builtin,Sem.run_bind,Sem.run_pure,Result.andThen_ok,List.map_toArray,List.map_cons,List.map_nil,hs,hxv,hr]
 exact hK _ _ (h v' w' q1 q2 q3 q4)
end
end Go.Proofs.YtpeoonnglnchnaaGreatDoor.Spare
namespace Go.Proofs.YtpeoonnglnchnaaGreatDoor.Mut
open RowKit YtpeoonnglnchnaaGreatDoor.Spare
end Go.Proofs.YtpeoonnglnchnaaGreatDoor.Mut
namespace Go.Proofs.YtpeoonnglnchnaaGreatDoor.Mrk
open Go.Lib (hid)
open RowKit YtpeoonnglnchnaaGreatDoor.Spare RegInv Mut
variable [Inhabited Lim]
theorem bytesM_ne (m:Mu):bytesM m≠[]:=by unfold bytesM;simp [textF_ne]
theorem brow_src {w:World} {v:Value} {l:List Nat} (h:BRow w v l) (hne:l≠[]):∃ ad cap,v=.slice (some ad) l.length cap/\∀ j u,(l.flatMap enB)[j]?=some u->w.cell? (ad.add j)=some u:=by
 obtain⟨ao,cap,rfl,-,-⟩:=Lst.form h
 cases ao with
 | none=>
  exfalso
  obtain⟨b,o,e,-,-⟩:=Lst.get h (i:=0) (List.length_pos_iff.2 hne)
  cases e
 | some a=>exact⟨a,cap,rfl,Lst.news enB_len (by decide) h⟩
theorem refall07_any (rv:Value) (R:List Ro) (w:World) (hr:MRow w rv R) (hnum:∀ x∈R,NumM x.1) (hn:R.length<=500) (hsmall:(bytesR (R.map (·.1))).length<=10000000) :
  Calls Tryz.prog 100 #[rv] w fun e w'=>∃ v',e=.returned v'/\OwnB w' w.heap.size v' (bytesR (R.map (·.1)))/\Below w.heap.size w w':=by
 obtain⟨ro,cap,rfl,-,-⟩:=hr.form
 obtain⟨i0,hi,hz0,hz1,hz2⟩:=info_parts_B
 have HI:=hid (And.intro hi (And.intro hz0 (And.intro hz1 hz2)))
 obtain⟨n,hnr⟩:∃ k,k=R.length:=⟨_,rfl⟩
 rw [<-hnr] at hr hn ⊢
 have HR:=hid hr
 have HN:=hid hnr
 have HNU:=hid hnum
 have HP:=hid (refput_any n w (by omega))
 obtain⟨Q,hQ⟩:∃ Q,Q=bytesR (R.map (·.1)):=⟨_,rfl⟩
 rw [<-hQ] at hsmall ⊢
 have HQ:=hid (show Q=putF n++(R.map (·.1)).flatMap bytesM from by rw [hQ];unfold bytesR;rw [lm0,<-hnr])
 clear hr hnr hnum hQ hi hz0 hz1 hz2
 go_enter Tryz.func100,Tryz.ntmps100
 go_wp2_with fail
 refine HP.out.mono ?_
 rintro e w1 ⟨v1,rfl,ho1,hb1⟩
 have HO1:=hid ho1
 have HB1:=hid hb1
 clear ho1 hb1 HP
 go_wp2_with fail
 go_loopw [3,4] (fun ov iv wr=>∃ (k on:Nat),k<=n/\iv=.int .i64 k/\on<=10000000/\Hid (on=(putF n++((R.take k).map (·.1)).flatMap bytesM).length)/\Hid (wr.ownsRow w.heap.size 5 1 ov on ((putF n++((R.take k).map (·.1)).flatMap bytesM).flatMap enB))/\Hid (Below w.heap.size w wr)) (fun _ iv _=>n - (intOf iv).toNat)
 case atStart=>exact⟨0,(putF n).length,by omega,rfl,(by have:=putF_ten (n:=n) (by omega);omega),hid (by simp),hid (by simpa using HO1.out),HB1⟩
 case round=>
  obtain⟨k,on,hk,rfl,hon,hol,ho,hb⟩:=hrel
  obtain⟨oo,oc,rfl⟩:=row_form ho.out
  by_cases hlt:k<n
  ·
   have hkr:k<R.length:=by have:=HN.out;omega
   obtain⟨x,hx⟩:∃ x,R[k]?=some x:=⟨_,ge0 hkr⟩
   have hmr:MRow wr (.slice ro n cap) R:=HR.out.below hb.out
   obtain⟨xb,xoff,hao,hat⟩:=hmr.at_ hx
   cases hao
   have hxm:=mg0 hx
   have hov:=hmr.over x hxm
   obtain⟨xo,xc,xe,-,-⟩:=Over.form hov
   have HNX:=hid (HNU.out x hxm)
   obtain⟨bk,hbk⟩:∃ b,b=putF n++((R.take k).map (·.1)).flatMap bytesM:=⟨_,rfl⟩
   have HBK:=hid (show putF n++((R.take (k+1)).map (·.1)).flatMap bytesM=bk++bytesM x.1 from by
    rw [hbk,List.take_add_one,hx];simp)
   have HBL:=hid (show (bk++bytesM x.1).length<=10000000 from by
    have h1:(((R.take (k+1)).map (·.1)).flatMap bytesM).length<=((R.map (·.1)).flatMap bytesM).length:=by
     conv=>rhs;rw [<-List.take_append_drop (k+1) R]
     rw [List.map_append,fa0,la0]
     omega
    have h2:=congrArg List.length HQ.out
    rw [la0] at h2
    rw [<-HBK.out,la0]
    omega)
   rw [<-hbk] at ho hol
   have HPU:=hid (refmutbytes_any x wr hov HNX.out)
   have hpu:=HPU.out
   unfold vM at hpu
   rw [xe] at hpu
   have HPV:=hid hpu
   obtain⟨hbl0,a0,a1,a2,a3,a4,a5,a6,a7,a8,a9⟩:=hat
   rw [xe] at a9
   have j0:(0:Int)<=(k:Int):=by omega
   have j1:(k:Int)<(n:Int):=by omega
   clear hmr hx hxm hov xe hbk hkr hpu HPU
   go_wp2_with fail
   refine HPV.out.mono ?_
   rintro e w2 ⟨v2,rfl,hv2,hb2⟩
   obtain⟨ad,c2,rfl,hsrc⟩:=brow_src hv2 (bytesM_ne x.1)
   have HO2:=hid (row_below ho.out hb2)
   have HB2:=hid (below_then hb.out lr hb2)
   have HSR:=hid hsrc
   obtain⟨m,hm⟩:∃ m,m=(bytesM x.1).length:=⟨_,rfl⟩
   have hmp:0<m:=by rw [hm];exact List.length_pos_iff.2 (bytesM_ne x.1)
   have hnm:on+m<=10000000:=by have h:=HBL.out;rw [la0,<-hol.out,<-hm] at h;exact h
   rw [<-hm]
   have HM:=hid hm
   have hbz:=HB2.out.size
   clear hv2 hb2 hsrc hm a0 a1 a2 a3 a4 a5 a6 a7 a8 a9 ho hb hbl0
   go_wp2_with (at_builtin;refine wpList_append_own_loc rfl (.tmp 14) (.tmp 19) 31 rfl w.heap.size 5 i0 (.int .u8 0) [.int .u8 0] 1 Tryz.underlying31 HI.out.1 HI.out.2.1 rfl HI.out.2.2.1 HI.out.2.2.2 (by decide) (.slice oo on oc) on (bk.flatMap enB) rfl HO2.out ad m c2 ((bytesM x.1).flatMap enB) rfl hmp (by rw [flat_enB_len,<-HM.out]) HSR.out (enB_one _) (by unfold maxLen;omega) (by omega) hbz ?_)
   intro v3 w3 g1 g2 g3
   have HO3:=hid (show w3.ownsRow w.heap.size 5 1 v3 (on+m) ((putF n++((R.take (k+1)).map (·.1)).flatMap bytesM).flatMap enB) from by rw [HBK.out,fa0];exact g1)
   have HB3:=hid (HB2.out.grown g2 HB2.out.size (fun j hj=>(HO2.out.lt j hj).1))
   have HL3:=hid (show on+m=(putF n++((R.take (k+1)).map (·.1)).flatMap bytesM).length from by rw [HBK.out,la0,<-hol.out,<-HM.out])
   clear g1 g2 g3
   go_wp2_with fail
   go_roundw
   case rel=>exact⟨k+1,on+m,by omega,by go_num,hnm,HL3,HO3,HB3⟩
   case measure=>simp [intOf];omega
  ·
   obtain rfl:k=n:=by omega
   have HO9:=hid (show OwnB wr w.heap.size (.slice oo on oc) Q from by
    have h:=ho.out
    have h2:=hol.out
    rw [List.take_of_length_le (by rw [HN.out];exact Nat.le_refl _),<-HQ.out] at h h2
    unfold OwnB
    rw [<-h2]
    exact h)
   clear ho
   go_wp2_with fail
   go_ret
   exact⟨_,rfl,HO9.out,hb.out⟩
