/- PkTabKeys. -/
import Derived.Shelf.Slices.CompactS
import Derived.Sort.OwnSorted
import Derived.Lib.OwnBridge
import Derived.Test.YtpeoonnglnchnaaGreatDoorTabRefPages
import Derived.Test.YtpeoonnglnchnaaGreatDoorPkBytPut
set_option linter.unusedSectionVars false
set_option linter.unusedSimpArgs false
set_option linter.unusedVariables false
set_option maxHeartbeats 16000000
set_option maxRecDepth 100000
namespace Go.Proofs.YtpeoonnglnchnaaGreatDoor.Mut
open Go.Lib (hid)
open RowKit Go.Sort Go.Shelf YtpeoonnglnchnaaGreatDoor.Ord YtpeoonnglnchnaaGreatDoor.Spare
variable [Inhabited Lim]
def layComp_ren:Go.Shelf.Ren:=⟨fun | 194=>84 | n=>n,fun | 0=>0 | 3=>3 | 4=>4 | 9=>9 | 31=>85 | n=>n,fun | n=>n⟩
theorem layComp:Go.Proofs.Lays.n194 Tryz.prog layComp_ren:={
 mixed:=by kernel_rfl
 f194:=Tryz.func84.trans (congrArg some (by kernel_rfl))
 t0:=Tryz.underlying0
 a0:=Tryz.isAgg0
 z0:=Tryz.sizeOf0
 v0:=Tryz.zeroValue0
 t3:=Tryz.underlying3
 a3:=Tryz.isAgg3
 z3:=Tryz.sizeOf3
 v3:=Tryz.zeroValue3
 t4:=Tryz.underlying4
 a4:=Tryz.isAgg4
 z4:=Tryz.sizeOf4
 v4:=Tryz.zeroValue4
 t9:=Tryz.underlying9
 a9:=Tryz.isAgg9
 z9:=Tryz.sizeOf9
 v9:=Tryz.zeroValue9
 t31:=Tryz.underlying85
 a31:=Tryz.isAgg85
 z31:=Tryz.sizeOf85
 v31:=Tryz.zeroValue85 }
abbrev lisT (x:ByteArray):List UInt8:=x.data.toList
def dupTo (l:List ByteArray) (i:Nat):List ByteArray:=(Lib.compactUpTo (l.map lisT).toArray i).map fun x=>(⟨x.toArray⟩:ByteArray)
def dupF (l:List ByteArray):List ByteArray:=dupTo l l.length
theorem dupF_eq (l:List ByteArray):(Lib.compact (l.map lisT)).map encStr=(dupF l).flatMap enTx:=by
 rw [flat_enS]
 unfold dupF dupTo Lib.compact
 rw [List.map_map,lm0]
 rfl
theorem dupTo_succ (l:List ByteArray) (i:Nat):dupTo l (i+1)=dupTo l i++(if Lib.keeps (l.map lisT).toArray i then [⟨((l.map lisT).toArray[i]!).toArray⟩] else []):=by
 unfold dupTo
 rw [Lib.compactUpTo_succ,List.map_append]
 congr 1
 split <;> rfl
theorem dup_at (l:List ByteArray) (i:Nat) (x:ByteArray) (h:l[i]?=some x):(l.map lisT).toArray[i]! = x.data.toList:=by
 obtain⟨hi,he⟩:=gs0.1 h
 rw [getElem!_pos _ _ (by simpa using hi)]
 simp [he]
theorem dupTo_first (l:List ByteArray) (x:ByteArray) (h:l[0]?=some x):dupTo l 1=[x]:=by
 have h1:=dupTo_succ l 0
 rw [Nat.zero_add] at h1
 rw [h1,dup_at l 0 x h]
 have e:dupTo l 0=[]:=rfl
 rw [e]
 simp [Lib.keeps]
theorem dupTo_next (l:List ByteArray) (i:Nat) (x y:ByteArray) (h:l[i]?=some y) (h2:l[i+1]?=some x):dupTo l (i+1+1)=dupTo l (i+1)++(if x=y then [] else [x]):=by
 rw [dupTo_succ,dup_at l (i+1) x h2]
 congr 1
 unfold Lib.keeps
 rw [Nat.add_sub_cancel,dup_at l (i+1) x h2,dup_at l i y h]
 by_cases e:x=y
 . subst e;simp
 ·
  have e2:x.data.toList≠y.data.toList:=fun q=>e (by
   cases x;cases y
   simpa using q)
  simp [e,e2]
theorem dupTo_len (l:List ByteArray):∀ i,(dupTo l i).length<=i
 | 0=>Nat.le_refl _
 | i+1=>by
  rw [dupTo_succ,la0]
  have:=dupTo_len l i
  split <;> simp <;> omega
theorem ownT_take {w:World} {base g cap n:Nat} {xs:List Value} (h:w.ownsRow base 9 1 (.slice (some ⟨g,0,none⟩) n cap) n xs) {k:Nat} (hk:k<=n) :
  w.ownsRow base 9 1 (.slice (some ⟨g,0,none⟩) k cap) k (xs.take k):=by
 obtain⟨h0,⟨h1,_⟩ | ⟨g',cap',cur,hv,hg,hb,hn,hcap,hs,ht⟩⟩:=h
 . cases h1
 ·
  cases hv
  refine⟨by rw [List.length_take,h0];omega,Or.inr ⟨g,cap,cur,rfl,hg,hb,by omega,hcap,hs,?_⟩⟩
  rw [<-ht,List.take_take]
  congr 1
  omega
def CompTP (base:Nat) (w:World) (v:Value) (l:List ByteArray) (e:Ending) (w':World):Prop:=∃ v',e=.returned v'/\OwnT w' base v' l/\w.grownBy w' v.ownBlock
theorem compactT_any (base:Nat) (v:Value) (l:List ByteArray) (w:World) (hown:OwnT w base v l) (hn:l.length<=1000000) :
  Calls Tryz.prog 84 #[v] w (CompTP base w v (dupF l)):=by
 have h0:=hown
 obtain⟨hl,⟨e,hz⟩ | ⟨g,cap,cur,e,hg,hb,hnc,hcm,hs,ht⟩⟩:=h0
 ·
  subst e
  obtain rfl:l=[]:=List.eq_nil_of_length_eq_zero hz
  refine (Any.slices_Compact_string_empty layComp none 0 w).mono ?_
  rintro e w' ⟨rfl,rfl⟩
  exact⟨_,rfl,hown,World.grownBy.refl _ _⟩
 ·
  subst e
  have e1:(l.map lisT).map encStr=l.flatMap enTx:=by rw [flat_enS];exact Lib.map_encStr l
  have el:(l.map lisT).length=l.length:=lm0 ..
  have hH:Holds encStr w g 0 (l.map lisT).toArray:=holds_of_block hb (by rw [el,e1,<-ht,Nat.mul_one])
  have hc:=Any.slices_Compact_string layComp g 0 cap (l.map lisT) w hH (by rw [el];omega) (by rw [el];exact hnc)
  rw [el] at hc
  refine hc.mono ?_
  rintro e w' ⟨rfl,q,rfl⟩
  have hk:(Lib.compact (l.map lisT)).length<=l.length:=by
   have h1:=dupTo_len l l.length
   unfold dupTo at h1
   rw [lm0] at h1
   unfold Lib.compact
   rw [el];exact h1
  have e2:=dupF_eq l
  obtain⟨K,hK⟩:∃ K,K=Lib.compact (l.map lisT):=⟨_,rfl⟩
  rw [<-hK] at hk e2 ⊢
  have e3:K.length=(dupF l).length:=by
   have:=congrArg List.length e2
   rw [lm0,flat_enT_len] at this
   exact this
  have ho:=ownsRow_sorted (w:=w) (base:=base) (g:=g) (cap:=cap) (n:=q) (e:=9) (os:=#[]) (cur:=cur) (ss:=l.map lisT) (ts:=K++List.replicate (l.length - K.length) []) (by rw [la0,List.length_replicate,el];omega) hg hb (by rw [el];exact hnc) hcm hs
  rw [el,Sort.grow_empty] at ho
  refine⟨_,rfl,?_,?_⟩
  ·
   have h2:=ownT_take ho hk
   unfold OwnT
   rw [<-e3]
   have e4:((K++List.replicate (l.length - K.length) []).map encStr).take K.length=(dupF l).flatMap enTx:=by
    rw [List.map_append,List.take_left' (lm0 ..),e2]
   rw [e4] at h2
   exact h2
  ·
   have h2:=grownBy_sorted (w:=w) (g:=g) (n:=q) (os:=#[]) (K++List.replicate (l.length - K.length) []).toArray
   rw [Sort.grow_empty] at h2
   exact h2
theorem keys_any (v:Value) (R:List Ro) (w:World) (hr:MRow w v R) (hn:R.length<=100000) :
  Calls Tryz.prog 48 #[v] w fun e w'=>∃ v',e=.returned v'/\OwnT w' w.heap.size v' (dupF (R.map (·.1.key)))/\Below w.heap.size w w':=by
 obtain⟨ro,cap,rfl,-,-⟩:=hr.form
 obtain⟨n,hnr⟩:∃ k,k=R.length:=⟨_,rfl⟩
 rw [<-hnr] at hr hn ⊢
 have HI:=hid info_parts_T
 obtain⟨i0,hI⟩:=HI.out
 have HI:=hid hI
 have HR:=hid hr
 have HN:=hid hnr
 clear hI hr hnr
 go_enter Tryz.func48,Tryz.ntmps48
 go_wp2_with fail
 go_loopw [3,8] (fun ov iv wr=>∃ (k:Nat) (oo:Option Addr) (oc:Nat),k<=n/\iv=.int .i64 k/\ov=.slice oo k oc/\Hid (wr.ownsRow w.heap.size 9 1 (.slice oo k oc) k (((R.take k).map (·.1.key)).flatMap enTx))/\Hid (Below w.heap.size w wr)) (fun _ iv _=>n - (intOf iv).toNat)
 case atStart=>exact⟨0,none,0,by omega,rfl,rfl,hid (World.ownsRow_nil _ _ _ _),hid br⟩
 case round=>
  obtain⟨k,oo,oc,hk,rfl,rfl,ho,hb⟩:=hrel
  by_cases hlt:k<n
  ·
   have hkr:k<R.length:=by have:=HN.out;omega
   obtain⟨x,hx⟩:∃ x,R[k]?=some x:=⟨_,ge0 hkr⟩
   have hmr:MRow wr (.slice ro n cap) R:=HR.out.below hb.out
   obtain⟨xb,xoff,hao,hat⟩:=hmr.at_ hx
   cases hao
   have hov0:=HR.out.over x (mg0 hx)
   obtain⟨xo,xc,xe,-,-⟩:=Over.form hov0
   have HT:=hid (show ((R.take (k+1)).map (·.1.key)).flatMap enTx=((R.take k).map (·.1.key)).flatMap enTx++[.string x.1.key] from by
    rw [List.take_add_one,hx];simp)
   obtain⟨hbl0,a0,a1,a2,a3,a4,a5,a6,a7,a8,a9⟩:=hat
   rw [xe] at a9
   have j0:(0:Int)<=(k:Int):=by omega
   have j1:(k:Int)<(n:Int):=by omega
   clear hmr hx hov0 xe hkr
   obtain⟨ky,hky⟩:∃ ky,ky=x.1.key:=⟨_,rfl⟩
   rw [<-hky] at HT a2
   obtain⟨W2,hW2⟩:∃ W,W=wr.alloc (.cells #[.int .i64 x.1.table,.int .i64 x.1.kind,.string ky,.string x.1.fin,.string x.1.val,.int .i64 x.1.expiry,.int .i64 x.1.at_.p,.int .i64 x.1.at_.l,.int .i64 x.1.at_.w,.slice xo x.1.over.length xc] 42):=⟨_,rfl⟩
   have hb2:Below wr.heap.size wr W2:=by rw [hW2];exact (Below.refl _ wr).alloc lr _
   have HO2:=hid (World.ownsRow.kept ho.out (Mrk.grown_below (row:=none) hb2) (by cases (Value.slice oo k oc).ownBlock <;> simp))
   have HB2:=hid (below_then hb.out lr hb2)
   have HW2:=hid hW2
   clear hky hb2
   go_upto_region 5 with fail
   rw [<-HW2.out]
   have m2:W2.cell? ⟨wr.heap.size,2,none⟩=some (.string ky):=by rw [HW2.out];exact cell_of_row _ _ 2 _ 42 (0,0) (heap_alloc_new wr _)
   clear HW2 hW2
   go_wp2_with (at_builtin;refine wpList_append_own_loc rfl _ _ 85 rfl w.heap.size 9 i0 (.string ByteArray.empty) [.string ByteArray.empty] 16 Tryz.underlying85 HI.out.1 HI.out.2.1 rfl HI.out.2.2.1 HI.out.2.2.2 (by decide) (.slice oo k oc) k (((R.take k).map (·.1.key)).flatMap enTx) rfl (HO2.out.alloc _) ⟨_,0,none⟩ 1 1 [.string ky] rfl (by decide) rfl (news_one (new_cell _ _ _)) (by intro u hu;simp at hu;subst hu;rfl) (by unfold maxLen;omega) (by omega) (by have:=HB2.out.size;simp;omega) ?_)
   intro v1 w1 g1 g2 g3
   obtain⟨o1,c1,rfl⟩:∃ o1 c1,v1=.slice o1 (k+1) c1:=by
    rcases g1.2 with ⟨h1,h0⟩ | ⟨g,cap,cur,h1,_⟩
    . omega
    . exact⟨_,_,h1⟩
   have HB3:=hid (show Below w.heap.size w w1 from (HB2.out.alloc HB2.out.size _).grown g2 (by have:=HB2.out.size;simp;omega) (fun q hq=>(World.ownsRow.lt HO2.out q hq).1))
   have HO3:=hid (show w1.ownsRow w.heap.size 9 1 (.slice o1 (k+1) c1) (k+1) (((R.take (k+1)).map (·.1.key)).flatMap enTx) from by rw [HT.out,List.map_take];exact g1)
   clear g1 g2 g3
   go_wp2_with fail
   go_roundw
   case rel=>exact⟨k+1,o1,c1,by omega,by go_num,rfl,HO3,HB3⟩
   case measure=>simp [intOf];omega
  ·
   obtain rfl:k=n:=by omega
   have hO:OwnT wr w.heap.size (.slice oo k oc) (R.map (·.1.key)):=by
    have h:=ho.out
    rw [List.take_of_length_le (by have:=HN.out;omega)] at h
    unfold OwnT
    rw [lm0,<-HN.out];exact h
   have HC:=hid (compactT_any w.heap.size _ _ wr hO (by rw [lm0,<-HN.out];omega))
   have HL:=hid (World.ownsRow.lt hO)
   clear hO
   go_wp2_with fail
   refine HC.out.mono ?_
   rintro e w1 ⟨v1,rfl,h1,h2⟩
   have HF:=hid (And.intro h1 (hb.out.grown h2 hb.out.size (fun q hq=>(HL.out q hq).1)))
   clear h1 h2
   go_wp2_with fail
   go_ret
   exact⟨_,rfl,HF.out.1,HF.out.2⟩
end Go.Proofs.YtpeoonnglnchnaaGreatDoor.Mut
namespace Go.Proofs.YtpeoonnglnchnaaGreatDoor.Tab
open RowKit YtpeoonnglnchnaaGreatDoor.Spare Mut Mrk YtpeoonnglnchnaaGreatDoor.Rd
variable [Inhabited Lim]
theorem pagesF_flat {α:Type}:∀ (n:Nat) (l:List α),l.length<=n->(pagesF l).flatten=l
 | n,[],_=>rfl
 | 0,a::l,h=>by simp at h
 | n+1,a::l,h=>by
  rw [pagesF_step (a::l) (by simp),List.flatten_cons,pagesF_flat n _ (by rw [List.length_drop];simp at h ⊢;omega),List.take_append_drop]
theorem pagesF_each {α:Type}:∀ (n:Nat) (l:List α),l.length<=n->∀ p∈pagesF l,p≠[]/\p.length<=8/\∀ x∈p,x∈l
 | n,[],_,p,hp=>by cases hp
 | 0,a::l,h,p,hp=>by simp at h
 | n+1,a::l,h,p,hp=>by
  rw [pagesF_step (a::l) (by simp)] at hp
  rcases List.mem_cons.1 hp with rfl | hp
  . exact⟨by simp,by rw [List.length_take];omega,fun x hx=>List.mem_of_mem_take hx⟩
  ·
   obtain⟨h1,h2,h3⟩:=pagesF_each n _ (by rw [List.length_drop];simp at h ⊢;omega) p hp
   exact⟨h1,h2,fun x hx=>List.mem_of_mem_drop (h3 x hx)⟩
theorem pagesF_len {α:Type}:∀ (n:Nat) (l:List α),l.length<=n->(pagesF l).length<=l.length
 | n,[],_=>Nat.le_refl _
 | 0,a::l,h=>by simp at h
 | n+1,a::l,h=>by
  have h1:=pagesF_len n ((a::l).drop 8) (by rw [List.length_drop];simp at h ⊢;omega)
  rw [pagesF_step (a::l) (by simp),List.length_cons]
  rw [List.length_drop] at h1
  simp only [List.length_cons] at h1 ⊢
  omega
theorem dupTo_in (l:List ByteArray):∀ i,i<=l.length->(dupTo l i).length<=i/\∀ x∈dupTo l i,x∈l
 | 0,_=>by
  have e:dupTo l 0=[]:=rfl
  rw [e]
  exact⟨Nat.le_refl _,fun x hx=>by cases hx⟩
 | 1,h=>by
  obtain⟨x,hx⟩:∃ x,l[0]?=some x:=⟨_,ge0 (by omega)⟩
  rw [dupTo_first l x hx]
  exact⟨Nat.le_refl _,fun y hy=>by rw [List.mem_singleton.1 hy];exact mg0 hx⟩
 | i+1+1,h=>by
  obtain⟨y,hy⟩:∃ y,l[i]?=some y:=⟨_,ge0 (by omega)⟩
  obtain⟨x,hx⟩:∃ x,l[i+1]?=some x:=⟨_,ge0 (by omega)⟩
  obtain⟨h1,h2⟩:=dupTo_in l (i+1) (by omega)
  rw [dupTo_next l i x y hy hx]
  split
  . rw [List.append_nil];exact⟨by omega,h2⟩
  ·
   refine⟨by rw [la0];simp;omega,fun z hz=>?_⟩
   rcases List.mem_append.1 hz with hz | hz
   . exact h2 z hz
   . rw [List.mem_singleton.1 hz];exact mg0 hx
theorem dupF_len (l:List ByteArray):(dupF l).length<=l.length:=(dupTo_in l _ lr).1
theorem dupF_mem {l:List ByteArray} {x:ByteArray} (h:x∈dupF l):x∈l:=(dupTo_in l _ lr).2 x h
def firstK:List Mu->ByteArray
 | []=>ByteArray.empty
 | m::_=>m.key
def leafB (p:List Mu):List Nat:=textF (firstK p)++textF (strOf (pageB p))
theorem right_key {m:Mu} (h:rightF m=true):keyF m.key=true:=by
 unfold rightF rightG at h
 simp only [Bool.and_eq_true,Bool.not_eq_true',Bool.or_eq_false_iff,Bool.and_eq_false_iff,decide_eq_true_eq,decide_eq_false_iff_not,Bool.not_eq_false'] at h
 exact h.2.1
theorem restM_len {m:Mu} (h:rightF m=true):(restM m).length<=1000:=by
 have h1:=right_len h
 unfold bytesM at h1
 rw [la0] at h1
 exact Nat.le_trans (Nat.le_add_left _ _) h1
theorem rowB_len {m:Mu} (last:ByteArray) (h:rightF m=true):(rowB last m).length<=1044:=by
 obtain⟨z1,-,-,-⟩:=right_sizes h
 have hw:=right_key h
 have h0:=sharedF_le2 last (keyF_well hw)
 have h1:=putF_ten (n:=sharedF last m.key) (by omega)
 have h2:=textF_len (m.key.extract (sharedF last m.key) m.key.size) (by rw [ByteArray.size_extract];omega)
 rw [ByteArray.size_extract] at h2
 have h3:=restM_len h
 unfold rowB
 rw [la0,la0]
 omega
theorem pageL_len:∀ (l:List Mu) (last:ByteArray),(∀ m∈l,rightF m=true)->(pageL last l).length<=1044*l.length
 | [],_,_=>Nat.le_refl _
 | m::l,last,h=>by
  have h1:=rowB_len last (h m List.mem_cons_self)
  have h2:=pageL_len l m.key (fun x hx=>h x (List.mem_cons_of_mem _ hx))
  unfold pageL
  rw [la0,List.length_cons]
  omega
theorem pageB_len {l:List Mu} (h:∀ m∈l,rightF m=true) (hn:l.length<=1000):(pageB l).length<=10+1044*l.length:=by
 have h1:=pageL_len l ByteArray.empty h
 have h2:=putF_ten (n:=l.length) (by omega)
 unfold pageB
 rw [la0]
 omega
theorem leafB_len {p:List Mu} (h:∀ m∈p,rightF m=true) (h0:p≠[]) (h8:p.length<=8):(leafB p).length<=1110*p.length:=by
 have h1:=pageB_len h (by omega)
 have hk:(firstK p).size<=24:=by
  cases p with
  | nil=>exact absurd rfl h0
  | cons m p=>exact (right_sizes (h m List.mem_cons_self)).1
 have h2:=textF_len (firstK p) (by omega)
 have h3:=textF_len (strOf (pageB p)) (by rw [strOf_size];omega)
 rw [strOf_size] at h3
 have h4:0<p.length:=List.length_pos_iff.2 h0
 unfold leafB
 rw [la0]
 omega
theorem leaves_len:∀ (P:List (List Mu)),(∀ p∈P,(∀ m∈p,rightF m=true)/\p≠[]/\p.length<=8)->(P.flatMap leafB).length<=1110*P.flatten.length
 | [],_=>Nat.le_refl _
 | p::P,h=>by
  obtain⟨h1,h2,h3⟩:=h p List.mem_cons_self
  have h4:=leafB_len h1 h2 h3
  have h5:=leaves_len P (fun q hq=>h q (List.mem_cons_of_mem _ hq))
  rw [List.flatMap_cons,la0,List.flatten_cons,la0]
  omega
def wipesC (c:Con):Con:=⟨[],c.wipes,[]⟩
theorem good_wipes {c:Con} {n:Nat} (h:Mut.Good c n):Mut.Good (wipesC c) n:=by
 have h1:=h.filter fun m=>decide (¬ m.table=2/\m.kind=3)
 have e:c.filter (fun m=>decide (¬ m.table=2/\m.kind=3))=wipesC c:=by
  unfold Con.filter wipesC
  congr 1
  ·
   refine List.filter_eq_nil_iff.2 fun m hm=>?_
   have:=(h.reps.cells m hm).2.2
   simp only [decide_eq_true_eq]
   exact fun e=>this e.2
  ·
   refine List.filter_eq_self.2 fun m hm=>?_
   have:=(h.reps.wipes m hm).2
   simp only [decide_eq_true_eq]
   exact this
  ·
   refine List.filter_eq_nil_iff.2 fun m hm=>?_
   have:=((h.reps.sibs m).1 hm).2
   simp only [decide_eq_true_eq]
   exact fun e=>e.1 this
 rw [e] at h1
 exact h1
def rowsC (c:Con):List Mu:=rowsF (c.cells++c.sibs)
def keysC (c:Con):List ByteArray:=dupF ((rowsC c).map (·.key))
def sizeC (c:Con):Nat:=sizeF (keysC c).length
def bitsC (c:Con):Nat->Bool:=ofF (8*sizeC c) (keysC c)
def tableB (c:Con):List Nat:=(putF (pagesF (rowsC c)).length++(pagesF (rowsC c)).flatMap leafB)++textF (strOf (sieveL (bitsC c) (sizeC c)))++bytesR (allF (wipesC c))
theorem rowsC_right {c:Con} {n:Nat} (h:Okc c n):∀ m∈rowsC c,rightF m=true:=fun m hm=>by
 have h1:=rowsF_mem.1 hm
 refine h.right m ?_
 rcases List.mem_append.1 h1 with h | h
 . exact Con.mem_all.2 (Or.inl h)
 . exact Con.mem_all.2 (Or.inr (Or.inr h))
theorem rowsC_len {c:Con} {n:Nat} (h:Okc c n):(rowsC c).length<=n:=by
 have h1:=h.len
 unfold Con.all at h1
 unfold rowsC
 rw [rowsF_len,la0]
 rw [la0,la0] at h1
 omega
theorem pagesC_each {c:Con} {n:Nat} (h:Okc c n):∀ p∈pagesF (rowsC c),(∀ m∈p,rightF m=true)/\p≠[]/\p.length<=8:=fun p hp=>by
 obtain⟨h1,h2,h3⟩:=pagesF_each _ (rowsC c) lr p hp
 exact⟨fun m hm=>rowsC_right h m (h3 m hm),h1,h2⟩
theorem pagesC_len {c:Con} {n:Nat} (h:Okc c n):((pagesF (rowsC c)).flatMap leafB).length<=1110*n:=by
 have h1:=leaves_len _ (pagesC_each h)
 rw [pagesF_flat _ _ lr] at h1
 have h2:=rowsC_len h
 omega
end Go.Proofs.YtpeoonnglnchnaaGreatDoor.Tab
namespace Go.Proofs.YtpeoonnglnchnaaGreatDoor.Rd
open Go RowKit Mrk Mut
theorem put_nil (W:World) (k:Nat) (hk:k<9223372036854775808):Calls Tryz.prog 43 #[.slice none 0 0,.int .i64 (k:Nat)] W fun e w'=>∃ v',e=.returned v'/\OwnB w' W.heap.size v' (([]:List Nat)++putF k)/\Below W.heap.size W w':=by
 refine (put_onto k W.heap.size (.slice none 0 0) [] W hk (World.ownsRow_nil _ _ _ _) lr (by simp)).mono ?_
 rintro e w' ⟨v',rfl,ho,hg,-⟩
 exact⟨v',rfl,ho,⟨hg.os,hg.tape,hg.output,hg.size,fun j hj=>hg.block j hj (by simp [Value.ownBlock])⟩⟩
