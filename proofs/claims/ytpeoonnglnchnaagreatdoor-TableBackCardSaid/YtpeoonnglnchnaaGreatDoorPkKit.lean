/- PkKit. -/
import Derived.Test.YtpeoonnglnchnaaGreatDoorRows
import Derived.WalkKit
import Derived.ProofKit
import Derived.Deep.Slices
import Derived.OpenShut
import Derived.Deep.Fields
import Derived.Test.YtpeoonnglnchnaaGreatDoorProg
import Derived.WalkSpells
import Derived.WalkLawsBesides
import Derived.Lib.Hide
import Derived.Deep.QuietTactic
import Derived.Deep.Draws
import Derived.Deep.OwnRows
import Derived.BigQuiet
import Derived.Deep.LoopGhost
import Derived.Deep.DeepCutAuto
import Derived.Deep.RegionHeld3
import Derived.Deep.RegionWith
import Derived.StillTail
set_option linter.unusedSimpArgs false
set_option linter.unusedVariables false
namespace Go.Proofs.YtpeoonnglnchnaaGreatDoor
theorem lr {n:Nat}:n≤n:=Nat.le_refl _
theorem br {B:Nat} {w:World}:Go.RowKit.Below B w w:=Go.RowKit.Below.refl _ _
theorem la0 {α:Type _} {xs ys:List α}:(xs++ys).length=xs.length+ys.length:=List.length_append
theorem ge0 {α:Type _} {l:List α} {i:Nat} (h:i<l.length):l[i]?=some l[i]:=List.getElem?_eq_getElem h
theorem gs0 {α:Type _} {i:Nat} {a:α} {l:List α}:l[i]?=some a↔∃ h:i<l.length,l[i]=a:=List.getElem?_eq_some_iff
theorem ag0 {α:Type _} {i:Nat} {a:α} {l:Array α}:l[i]?=some a↔∃ h:i<l.size,l[i]=a:=Array.getElem?_eq_some_iff
theorem mg0 {α:Type _} {l:List α} {i:Nat} {a:α}:l[i]?=some a→a∈l:=List.mem_of_getElem?
theorem df0 {p:Prop} [inst:Decidable p]:¬p→decide p=false:=decide_eq_false
theorem dt0 {p:Prop} [inst:Decidable p]:p→decide p=true:=decide_eq_true
theorem lm0 {α:Type _} {β:Type _} {xs:List α} (f:α→β):(List.map f xs).length=xs.length:=List.length_map f
theorem fa0 {α:Type _} {β:Type _} {xs ys:List α} {f:α→List β}:List.flatMap f (xs++ys)=List.flatMap f xs++List.flatMap f ys:=List.flatMap_append
theorem dg0 {α:Type _} {i:Nat} {l:List α} (h:i<l.length):l.drop i=l[i]::l.drop (i+1):=List.drop_eq_getElem_cons h
end Go.Proofs.YtpeoonnglnchnaaGreatDoor
namespace Go.Proofs.YtpeoonnglnchnaaGreatDoor.Kit
open Go.ChangeShapes Go.WideShapes Go.ChangeAt RowKit Go.Deep
section
variable {H : Type} {enc : TypeId × Value -> H} {P : Program}
theorem trodAll_below (hl:laidOutB P=true) {W W':World} (hb:Below W.heap.size W W') :
  ∀ (ts:List TypeId) (vs:List Value) (ds:List (DataW H)) (ps:List MemPlace),(∀ t∈ts,P.readableRec t=true/\t<P.types.size)->(∀ x∈ps,x.block<W.heap.size) ->
   DataW.TrodAll enc P W 0 (fun _=>true) true ts vs ds ps->DataW.TrodAll enc P W' 0 (fun b=>decide (b<W.heap.size)) true ts vs ds ps
 | [],[],[],_,_,_,h=>h
 | t::ts,v::vs,d::ds,ps,hr,hp,h=>by
  obtain⟨p,q,h1,h2,rfl⟩:=h
  exact⟨p,q,Below.trod hl (hr t (by simp)).1 (hr t (by simp)).2 h1 hb (fun x hx=>hp x (by simp [hx])),
   trodAll_below hl hb ts vs ds q (fun t ht=>hr t (by simp [ht])) (fun x hx=>hp x (by simp [hx])) h2,rfl⟩
 | [],_::_,_,_,_,_,h=>by cases h
 | [],[],_::_,_,_,_,h=>by cases h
 | _::_,[],_,_,_,_,h=>by cases h
 | _::_,_::_,[],_,_,_,h=>by cases h
theorem law_post {f:Func} {s:ChangeSpec} {W W':World} {args:Array Value} {ds gs:List (DataW H)} {before:List MemPlace} {tb:TypeId} (hl:laidOutB P=true)
  (hp:∀ t∈f.params.toList,P.readableRec t=true/\t<P.types.size) (hv:s.vars=[]) (hres:f.resultTypes=#[tb]) (ht:P.underlying tb=some .bool)
  (hspec:s.fn H ds={ results:=[.lit (.bool true)],args:=ds }) (hW:DataW.Whole enc P f.params.toList s.vars false W args.toList ds gs before) (hb:Below W.heap.size W W') :
  s.post enc P f false true false false W args (.bool true) W':=by
 have hlt:∀ x∈before,x.block<W.heap.size:=fun x hx=>by simpa using hW.lt x hx
 have hW':=hW
 obtain⟨p,q,hA,hV,rfl,hfz,hnd⟩:=hW'
 rw [hv] at hV
 match gs,hV with
 | [],hq=>
  have hq:q=[]:=hq
  subst hq
  have e:s.fn H (ds++[])={ results:=[.lit (.bool true)],args:=ds }:=by rw [List.append_nil];exact hspec
  refine⟨ds,[],p++[],[],p,[],hW,?_,?_,?_,?_,fun h=>by cases h⟩
  ·
   rw [e,hres]
   exact trodAll_mk1 (shut_bool ht true)
  ·
   rw [e]
   exact trodAll_below hl hb _ _ _ _ hp (fun x hx=>hlt x (by simp [hx])) hA
  . rw [e,hv];rfl
  . exact hb.frame _
end
section
variable {H : Type} {enc : TypeId × Value -> H} {P : Program} {w : World}
def Rd (enc:TypeId × Value->H) (P:Program) (w:World) (t:TypeId) (cs:List Value):Prop:=
 ∃ n x,DataW.trod enc P w 0 (fun _=>true) true n t cs=some x
theorem rd_of_trod {t:TypeId} {v:Value} {d:DataW H} {ps:List MemPlace} (h:DataW.Trod enc P w 0 (fun _=>true) true t v d ps):Rd enc P w t v.cells.toList:=
 let ⟨n,h⟩:=h;⟨n,_,h⟩
theorem rd_int {t:TypeId} {k:IntKind} {cs:List Value} (ht:P.underlying t=some (.int k)) (h:Rd enc P w t cs):∃ n,cs=[.int k n]/\(Lit.int k n).wf=true:=by
 obtain⟨n,x,h⟩:=h
 obtain⟨a,hc,hx,hw⟩:=DataW.trod_int ht h
 exact⟨a,hc,hw⟩
theorem rd_string {t:TypeId} {cs:List Value} (ht:P.underlying t=some .string) (h:Rd enc P w t cs):∃ s:ByteArray,cs=[.string s]/\s.size<=maxLen:=by
 obtain⟨n,x,h⟩:=h
 obtain⟨a,hc,hx,hw⟩:=DataW.trod_string ht h
 exact⟨a,hc,hw⟩
theorem rd_struct {t:TypeId} {fs:Array Field} {cs:List Value} (ht:P.underlying t=some (.struct fs)) (h:Rd enc P w t cs) :
  cs.length=P.cellsOf t/\∀ (i:Nat) (f:Field),fs[i]?=some f->Rd enc P w f.type ((cs.drop f.offset).take (P.cellsOf f.type)):=by
 obtain⟨n,x,h⟩:=h
 obtain⟨xs,k,hk,hxy,hl,hxl,hf⟩:=DataW.trod_struct ht h
 refine⟨hl,fun i f hi=>?_⟩
 have hi':i<xs.length:=by
  have:=(Array.getElem?_eq_some_iff.1 hi).1
  omega
 exact⟨k,_,(hf i f hi).trans (List.getElem?_eq_getElem hi')⟩
theorem rd_slice {t e:TypeId} {cs:List Value} (ht:P.underlying t=some (.slice e)) (h:Rd enc P w t cs) :
  cs=[.slice none 0 0]\/∃ (a:Addr) (len cap:Nat),cs=[.slice (some a) len cap]/\len<=cap/\cap<=maxLen /\
   ∀ i,i<cap->∃ cs',w.cells? 0 (a.add (i*P.cellsOf e)) (P.cellsOf e)=some cs'/\Rd enc P w e cs':=by
 obtain⟨n,x,h⟩:=h
 rcases open_slice ht h with ⟨h0,_⟩ | ⟨a,len,cap,m,n',D,Pl,hc,hb,hl,hm,hmm,hx,hel⟩
 . exact Or.inl h0
 right
 refine⟨a,len,cap,hc,hl,hm,fun i hi=>?_⟩
 obtain⟨cs',h1,h2⟩:=hel i (by rw [hmm];simpa using hi)
 exact⟨cs',h1,n',_,h2⟩
def Arg (enc:TypeId × Value->H) (P:Program) (w:World) (t:TypeId) (v:Value):Prop:=
 (∃ r b0,Value.okWide P w r b0 t v)/\Rd enc P w t v.cells.toList
def Args (enc:TypeId × Value->H) (P:Program) (w:World):List TypeId->List Value->Prop
 | [],[]=>True
 | t::ts,v::vs=>Arg enc P w t v/\Args enc P w ts vs
 | _,_=>False
theorem arg_slice {t e:TypeId} {v:Value} (ht:P.underlying t=some (.slice e)) (h:Arg enc P w t v):v=.slice none 0 0\/∃ (a:Addr) (len cap:Nat),v=.slice (some a) len cap/\len<=cap/\cap<=maxLen /\
   ∀ i,i<cap->∃ cs',w.cells? 0 (a.add (i*P.cellsOf e)) (P.cellsOf e)=some cs'/\Rd enc P w e cs':=by
 obtain⟨⟨r,b0,hv⟩,hr⟩:=h
 obtain⟨a,len,cap,rfl⟩:=okWide_slice ht hv
 rcases rd_slice ht hr with h | ⟨a',len',cap',h,hl,hc,hel⟩
 ·
  simp [Value.cells] at h
  obtain⟨rfl,rfl,rfl⟩:=h
  exact Or.inl rfl
 ·
  simp [Value.cells] at h
  obtain⟨rfl,rfl,rfl⟩:=h
  exact Or.inr ⟨a',len,cap,rfl,hl,hc,hel⟩
theorem args1 {t0:TypeId} {args:Array Value} (h:Args enc P w [t0] args.toList):∃ v0,args=#[v0]/\Arg enc P w t0 v0:=by
 match args,h with
 | ⟨[v0]⟩,h=>exact⟨v0,rfl,h.1⟩
theorem args_of {ts:List TypeId}:∀ {vs:List Value} {ds:List (DataW H)} {ps:List MemPlace},(∀ (j:Nat) t v,ts[j]?=some t->vs[j]?=some v->∃ r b0,Value.okWide P w r b0 t v) ->
  DataW.TrodAll enc P w 0 (fun _=>true) true ts vs ds ps->Args enc P w ts vs/\ds.length=ts.length:=by
 induction ts with
 | nil=>
  intro vs ds ps _ h
  match vs,ds,h with
  | [],[],_=>exact⟨trivial,rfl⟩
 | cons t ts ih=>
  intro vs ds ps hv h
  match vs,ds,h with
  | v::vs,d::ds,h=>
   obtain⟨p,q,h1,h2,_⟩:=h
   have hi:=ih (fun j t' v' h3 h4=>hv (j+1) t' v' (by simpa using h3) (by simpa using h4)) h2
   exact⟨⟨⟨hv 0 t v rfl rfl,rd_of_trod h1⟩,hi.1⟩,by simp [hi.2]⟩
theorem rd_fields {t:TypeId} {fs:Array Field} {cs:List Value} (ht:P.underlying t=some (.struct fs)) (hone:oneCellFields P fs=true) (h:Rd enc P w t cs) :
  cs.length=P.cellsOf t/\∀ (i:Nat) (f:Field),fs[i]?=some f->i<cs.length->∃ v,cs[i]?=some v/\Rd enc P w f.type [v]:=by
 obtain⟨hl,hf⟩:=rd_struct ht h
 refine⟨hl,fun i f hi hlt=>?_⟩
 obtain⟨o0,k0⟩:=hone_of hone i f hi
 have:=hf i f hi
 rw [o0,k0,List.drop_eq_getElem_cons hlt] at this
 exact⟨cs[i],List.getElem?_eq_getElem hlt,this⟩
theorem rd_struct3 {t:TypeId} {f0 f1 f2:Field} {cs:List Value} (ht:P.underlying t=some (.struct #[f0,f1,f2])) (hone:oneCellFields P #[f0,f1,f2]=true) (hC:P.cellsOf t=3) (h:Rd enc P w t cs) :
  ∃ v0 v1 v2,cs=[v0,v1,v2]/\Rd enc P w f0.type [v0]/\Rd enc P w f1.type [v1]/\Rd enc P w f2.type [v2]:=by
 obtain⟨hl,hf⟩:=rd_fields ht hone h
 rw [hC] at hl
 match cs,hl with
 | [v0,v1,v2],_=>
  obtain⟨_,e0,r0⟩:=hf 0 f0 rfl (by simp)
  obtain⟨_,e1,r1⟩:=hf 1 f1 rfl (by simp)
  obtain⟨_,e2,r2⟩:=hf 2 f2 rfl (by simp)
  cases e0;cases e1;cases e2
  exact⟨v0,v1,v2,rfl,r0,r1,r2⟩
theorem rd_i64 {t:TypeId} {v:Value} (ht:P.underlying t=some (.int .i64)) (h:Rd enc P w t [v]):∃ n,v=.int .i64 n∧-9223372036854775808<=n/\n<=9223372036854775807:=by
 obtain⟨n,hc,hw⟩:=rd_int ht h
 cases hc
 exact⟨n,rfl,bounds_i64 hw⟩
theorem cells_slice {e:TypeId} {ao:Option Addr} {len cap:Nat} (hpos:0<P.cellsOf e) (hl:len<=cap) (hc:cap<=maxLen)
  (h:ao=none/\cap=0\/∃ a,ao=some a/\∀ i,i<cap->∃ cs',w.cells? 0 (a.add (i*P.cellsOf e)) (P.cellsOf e)=some cs'/\Rd enc P w e cs') :
  len=0\/∃ (b off:Nat) (F:Nat->List Value),ao=some ⟨b,off,none⟩/\0<len/\len<=cap/\cap<=maxLen/\b<w.heap.size /\
   ∀ i,i<cap->(F i).length=P.cellsOf e/\Rd enc P w e (F i)/\∀ j,j<P.cellsOf e->w.cell? ⟨b,off+i*P.cellsOf e+j,none⟩=(F i)[j]?:=by
 by_cases h0:len=0
 . exact Or.inl h0
 right
 rcases h with ⟨_,h1⟩ | ⟨a,rfl,hel⟩
 . omega
 obtain⟨F,hF⟩:=choose_lt (α:=List Value) (p:=fun i cs'=>w.cells? 0 (a.add (i*P.cellsOf e)) (P.cellsOf e)=some cs'/\Rd enc P w e cs') hel
 obtain⟨_,g1,g2⟩:=World.cells?_some (hF 0 (by omega)).1
 have g:=g2 0 hpos
 have hs:a.spot=none/\a.block<w.heap.size:=by
  have e1:(a.add (0*P.cellsOf e)).add 0=a:=by simp [Addr.add]
  rw [e1] at g
  have:(F 0)[0]?≠none:=by rw [Ne,List.getElem?_eq_none_iff];omega
  rw [<-g] at this
  unfold World.cell? at this
  split at this
  ·
   rename_i c t fr hb
   have hb':=(Array.getElem?_eq_some_iff.1 hb).1
   refine⟨?_,hb'⟩
   cases hsp:a.spot with
   | none=>rfl
   | some _=>simp [hsp] at this
  . exact absurd rfl this
 obtain⟨b,off,sp⟩:=a
 obtain⟨rfl,hb⟩:=hs
 refine⟨b,off,F,rfl,by omega,hl,hc,hb,fun i hi=>?_⟩
 obtain⟨_,k1,k2⟩:=World.cells?_some (hF i hi).1
 refine⟨k1,(hF i hi).2,fun j hj=>?_⟩
 have:=k2 j hj
 rw [add_add] at this
 rw [<-this]
 unfold Addr.add
 split
 . rename_i h;simp only [Nat.add_assoc,h,Nat.add_zero]
 . simp only [Nat.add_assoc]
end
section
variable {H : Type} {enc : TypeId × Value -> H} {P : Program}
end
end Go.Proofs.YtpeoonnglnchnaaGreatDoor.Kit
namespace Go.Proofs.YtpeoonnglnchnaaGreatDoor
open RowKit
@[go_sem ↓] theorem run_max2 {P:Program} {w:World} (ts:Array TypeId) (t:TypeId) (k k':IntKind) (x y:Int):(Builtin.max_ ts t #[.int k x,.int k' y]).run P w=.ok (.int k (max x y)) w:=by
 rw [run_max_int2]
 congr 2
 omega
@[go_sem ↓] theorem run_min2 {P:Program} {w:World} (ts:Array TypeId) (t:TypeId) (k k':IntKind) (x y:Int):(Builtin.min_ ts t #[.int k x,.int k' y]).run P w=.ok (.int k (min x y)) w:=by
 rw [run_min_int2]
 congr 2
 omega
theorem ret_int {k:IntKind} {a b:Int} (h:a=b):Ending.returned (.int k a)=.returned (.int k b):=by rw [h]
theorem ret_bool {a b:Bool} (h:a=b):Ending.returned (.bool a)=.returned (.bool b):=by rw [h]
theorem below_then {B:Nat} {a b c:World} (h:Below B a b) (hB:B<=a.heap.size) (k:Below b.heap.size b c):Below B a c:=h.trans (k.mono (Nat.le_trans hB h.size))
theorem grown_drew {a w:World} {row:Option Nat} (h:a.grownBy w row):a.grownBy w.drew row:=⟨h.os,h.tape,h.output,h.size,h.block⟩
theorem grown_alloc {a w:World} {row:Option Nat} (h:a.grownBy w row) (o:Obj):a.grownBy (w.alloc o) row:=
 ⟨h.os,h.tape,h.output,Nat.le_trans h.size (by simp),fun i hi hne=>(Below.heap_alloc w o i (Nat.lt_of_lt_of_le hi h.size)).trans (h.block i hi hne)⟩
theorem grown_setCell {a w:World} {g:Nat} (h:a.grownBy w (some g)) {p:Addr} (hp:p.block=g\/a.heap.size<=p.block) (u:Value):a.grownBy (w.setCell p u) (some g):=
 ⟨h.os,h.tape,h.output,by simpa [World.setCell] using h.size,fun i hi hne=>(Below.heap_setCell w p u i (by
  rintro rfl
  rcases hp with hp | hp
  . exact hne (by rw [hp])
  . omega)).trans (h.block i hi hne)⟩
theorem below_row {B:Nat} {a b c:World} {g:Nat} (h:Below B a b) (hB:B<=a.heap.size) (hg:B<=g) (k:b.grownBy c (some g)):Below B a c:=
 h.trans ⟨k.os,k.tape,k.output,k.size,fun i hi=>k.block i (by have:=h.size;omega) (by rintro⟨⟩;omega)⟩
theorem new_cells (w:World) (c:List Value) (t:TypeId) (j:Nat) (u:Value) (h:c[j]?=some u):(w.alloc (.cells ⟨c⟩ t)).cell? ((⟨w.heap.size,0,none⟩:Addr).add j)=some u:=by
 have e:(w.alloc (.cells ⟨c⟩ t)).heap[w.heap.size]?=some (.cells ⟨c⟩ t (0,0)):=by show (w.heap.push _)[w.heap.size]?=_;simp
 unfold Addr.add
 split
 . rename_i h0;subst h0;unfold World.cell?;simp only [e];simpa using h
 . unfold World.cell?;simp only [e];simpa using h
theorem below_drewN {B:Nat} {a w:World} (h:Below B a w) (n:Nat):Below B a (w.drewN n):=⟨h.os,h.tape,h.output,h.size,h.block⟩
def BW (w:World):Type:={ w':World // Below w.heap.size w w' }
instance (w:World):Nonempty (BW w):=⟨⟨w,Below.refl _ _⟩⟩
def BW.at {w:World} (x:BW w):World:=x.1
theorem BW.below {w:World} (x:BW w):Below w.heap.size w x.at:=x.2
theorem BW.cell {w:World} (x:BW w) {b:Nat} (h:b<w.heap.size) (o:Nat):x.at.cell? ⟨b,o,none⟩=w.cell? ⟨b,o,none⟩:=x.below.cell (p:=⟨b,o,none⟩) h
@[go_sem] theorem BW.cell_sem {w:World} (x:BW w) (b o:Nat) (h:b<w.heap.size):x.at.cell? ⟨b,o,none⟩=w.cell? ⟨b,o,none⟩:=x.cell h o
theorem wp_region_calm {P:Program} {id:Nat} {Q:Exit->Act->World->Prop} {a:Act} {w:World} {l:List Oper} (hm:P.follows .mixedOrders=true) (hB:Region.lexB .any l.toArray=true)
  (h:wpQuiet P l.toArray (fun w'=>∃ x:BW w,w'=x.at) (fun a'=>∀ w',(∃ x:BW w,w'=x.at)->Q .normal a' w') l a):(Code.region id l.toArray true).wp P Q a w:=
 wp_region_quiet (C:=fun w'=>∃ x:BW w,w'=x.at) hm hB ⟨⟨w.drew,(Below.refl _ _).drew⟩,rfl⟩ (by simpa using h)
theorem calm {P:Program} {f:FuncId} {args:Array Value} {w:World} {x:BW w} {v:Value}
  (h:Calls P f args x.at fun e w'=>e=.returned v/\Below x.at.heap.size x.at w'):Calls P f args x.at fun e w''=>e=.returned v/\∃ y:BW w,w''=y.at:=
 h.mono fun _ w' ⟨he,hb⟩=>⟨he,⟨w',below_then x.below (Nat.le_refl _) hb⟩,rfl⟩
theorem calm_same {P:Program} {f:FuncId} {args:Array Value} {w:World} {x:BW w} {v:Value}
  (h:Calls P f args x.at fun e w'=>e=.returned v/\x.at=w'):Calls P f args x.at fun e w''=>e=.returned v/\∃ y:BW w,w''=y.at:=
 h.mono fun _ _ ⟨he,hb⟩=>⟨he,x,hb.symm⟩
section
variable {P : Program} {md : Region.Mode} {ops : Array Oper} {C : World -> Prop} {n : Nat} {L : Array Bool -> Act -> Prop}
def headQ (P:Program) (md:Region.Mode) (ops:Array Oper) (C:World->Prop) (n:Nat) (L:Array Bool->Act->Prop):Nat->Array Bool->Act->Prop
 | 0=>L
 | f+1=>fun listed a=>Region.ready md ops listed≠[]/\∀ i,i∈Region.ready md ops listed->i<n/\qOp P ops C i (headQ P md ops C n L f (listed.setIfInBounds i true)) a
theorem headQ_any {g:Nat} {Q:Exit->Act->World->Prop} (hL:∀ listed a w,C w->L listed a->wpAny P md ops Q g listed a w) (f:Nat) :
  ∀ listed a w,C w->headQ P md ops C n L f listed a->wpAny P md ops Q (f+g) listed a w:=by
 induction f with
 | zero=>intro listed a w hw h;rw [Nat.zero_add];exact hL _ _ _ hw h
 | succ f ih=>
  intro listed a w hw h
  rw [Nat.add_right_comm f 1 g]
  refine⟨fun h0=>(h.1 h0).elim,fun i hi=>?_⟩
  exact wpOp_of_qOp hw (fun a' w' hw' h'=>ih _ a' w' hw' h') (h.2 i hi).2
theorem headQ_first {i:Nat} {oi:Oper} {v:Value} (hi:ops[i]?=some oi) (hsel:∀ (j:Nat) (o:Oper) cs b,ops[j]?=some o->o.op≠.select cs b) (hs:Region.sinkB md ops n=true)
  (hc:Region.chainB md ops n=true) (hn:n<ops.size) (hin:i<n) (hdone:∀ listed a,L listed a->∀ j∈Region.ready md ops listed,n<=j) (f:Nat) :
  ∀ listed a,HeadInv md ops n listed->(∀ j oj,ops[j]?=some oj->j≠i->listed.getD j true=false->(∀ e∈oj.after,Region.binds md e=true->e.on≠i)->oi.apart ops oj=true) ->
   i∈Region.ready md ops listed->YieldsIn P ops C oi v a->headQ P md ops C n L f (listed.setIfInBounds i true) (a.put oi.dst v)->headQ P md ops C n L (f+1) listed a:=by
 induction f with
 | zero=>
  intro listed a inv _ hr hy H
  refine⟨List.ne_nil_of_mem hr,fun j hj=>?_⟩
  by_cases hji:j=i
  ·
   subst hji
   exact⟨hin,hy.qOp hi H⟩
  ·
   have h1:=hdone _ _ H j (ready_mono hj hji)
   exact absurd hj (tail_waits hs hc hn inv _ i rfl hin (mem_ready.1 hr).1 j h1)
 | succ f ih=>
  intro listed a inv hfree hr hy H
  have hun:=(mem_ready.1 hr).1
  refine⟨List.ne_nil_of_mem hr,fun j hj=>?_⟩
  have hjn:j<n:=Nat.lt_of_not_le fun h=>tail_waits hs hc hn inv _ i rfl hin hun j h hj
  by_cases hji:j=i
  ·
   subst hji
   exact⟨hin,hy.qOp hi H⟩
  refine⟨hjn,?_⟩
  obtain⟨hjun,oj,hoj,hall⟩:=mem_ready.1 hj
  have hap:oi.apart ops oj=true:=hfree j oj hoj hji hjun fun e he hb heq=>by
   have:=hall e he hb
   rw [heq,getD_both hun] at this
   exact Bool.noConfusion this
  have h2:=qOp_put hoj hap (fun cs b=>hsel i oi cs b hi) (fun cs b=>hsel j oj cs b hoj) hy (H.2 j (ready_mono hj hji)).2
  refine qOp_mono (fun a' h3=>ih _ a' (inv.set hj hjn) (fun k ok hk hki hun' hno=>hfree k ok hk hki ?_ hno) (ready_mono hr (Ne.symm hji)) h3.1 ?_) h2
  ·
   by_cases hjk:j=k
   . rw [<-hjk];exact hjun
   . rwa [getD_set_ne true hjk] at hun'
  ·
   rw [Array.setIfInBounds_comm _ _ hji]
   exact h3.2
theorem headQ_text {g:Nat} {K:Act->Prop} (hsel:Region.noSelect ops=true) (hs:Region.sinkB md ops n=true) (hc:Region.chainB md ops n=true) (hn:n<ops.size) (l:List Oper) :
  ∀ (k:Nat) (listed:Array Bool) (a:Act),(∀ j,j<l.length->l[j]?=ops[k+j]?)->k+l.length=n->HeadInv md ops n listed->Region.lexHead md ops g l.length k listed=true->wpQuiet P ops C K l a ->
  headQ P md ops C n (fun listed' a'=>Region.seqB md ops g n listed'=true/\K a') l.length listed a:=by
 induction l with
 | nil=>
  intro k listed a _ hk _ hB h
  obtain rfl:k=n:=by simpa using hk
  exact⟨by simpa [Region.lexHead] using hB,h⟩
 | cons o l ih=>
  intro k listed a hl hk inv hB h
  have hkn:k+(l.length+1)=n:=hk
  have h0:ops[k]?=some o:=by have:=hl 0 (by simp);simpa using this.symm
  have hB':=hB
  simp only [List.length_cons,Region.lexHead,Bool.and_eq_true] at hB'
  have hr:k∈Region.ready md ops listed:=by simpa using hB'.1.1
  obtain⟨v,hy,hK⟩:=yieldsIn_of_qOp (P:=P) (C:=C) (K:=wpQuiet P ops C K l) h0 (by unfold qOp;simp only [h0];exact h)
  refine headQ_first h0 (Region.noSelect_spec hsel) hs hc hn (by omega) (fun _ _ hL=>seqB_ready hL.1) l.length listed a inv (Region.free_spec h0 hB'.1.2) hr hy ?_
  refine ih (k+1) _ _ (fun j hj=>?_) (by omega) (inv.set hr (by omega)) hB'.2 hK
  have:=hl (j+1) (by simp;omega)
  rw [show k+1+j=k+(j+1) by omega,<-this]
  rfl
end
theorem wp_region_calm_tail {P:Program} {id:Nat} {Q:Exit->Act->World->Prop} {a:Act} {w:World} {l:List Oper} (n:Nat) (hm:P.follows .mixedOrders=true) (hB:Region.lexTailB .any l.toArray n=true)
  (h:wpQuiet P l.toArray (fun w'=>∃ x:BW w,w'=x.at) (fun a'=>∀ w',(∃ x:BW w,w'=x.at)->wpList P l.toArray Q (l.drop n) a' w') (l.take n) a):(Code.region id l.toArray true).wp P Q a w:=by
 have hB':=hB
 simp only [Region.lexTailB,Bool.and_eq_true,decide_eq_true_eq] at hB'
 obtain⟨⟨⟨⟨hsel,hn⟩,hs⟩,hc⟩,hlex⟩:=hB'
 have hn':n<l.length:=by simpa using hn
 have htl:(l.take n).length=n:=by rw [List.length_take];omega
 have hdl:(l.drop n).length=l.toArray.size - n:=by simp
 have inv:HeadInv .any l.toArray n (Array.replicate l.toArray.size false):=
  ⟨by simp,fun j oj _ hl=>(by rw [getD_replicate_false] at hl;exact Bool.noConfusion hl),fun t _ ht=>getD_in (by simpa using ht) (getD_replicate_false _ _)⟩
 have H:=headQ_text (md:=.any) (g:=l.toArray.size - n) hsel hs hc hn (l.take n) 0 _ a (fun j hj=>by
  rw [htl] at hj
  simp [hj]) (by rw [htl,Nat.zero_add]) inv (by rw [htl];exact hlex) h
 have H2:=headQ_any (Q:=Q) (g:=l.toArray.size - n) (fun listed a' w' hw' hL=>by
  have:=wpAny_of_seq (md:=.any) (Q':=Q) (l.drop n) n listed a' w' (fun j=>by simp [List.getElem?_drop]) (by rw [hdl];exact hL.1) (hL.2 w' hw')
  rwa [hdl] at this) _ _ a w.drew ⟨⟨w.drew,(Below.refl _ _).drew⟩,rfl⟩ H
 rw [htl,Nat.add_sub_cancel' (Nat.le_of_lt hn)] at H2
 exact wp_region_any hm H2
end Go.Proofs.YtpeoonnglnchnaaGreatDoor
namespace Go.Proofs.YtpeoonnglnchnaaGreatDoor.Ord
def cmpI (a b:Int):Int:=if a<b then -1 else if b<a then 1 else 0
def lessS (a b:ByteArray):Bool:=Op.bytesLess a.toList b.toList
def cmpS (a b:ByteArray):Int:=if lessS a b then -1 else if !lessS a b && !(a.toList == b.toList) then 1 else 0
def orL:List Int->Int
 | []=>0
 | x::l=>if x=0 then orL l else x
def rowC {α:Type} (c:α->α->Int):List α->List α->Int
 | [],[]=>0
 | [],_::_=>-1
 | _::_,[]=>1
 | x::a,y::b=>if c x y=0 then rowC c a b else c x y
theorem less_irrefl (a:List UInt8):Op.bytesLess a a=false:=by
 induction a with
 | nil=>rfl
 | cons x a ih=>simp [Op.bytesLess,ih]
theorem less_trans:∀ (a b c:List UInt8),Op.bytesLess a b=true->Op.bytesLess b c=true->Op.bytesLess a c=true
 | _,[],_,h,_=>by cases ‹List UInt8› <;> simp [Op.bytesLess] at h
 | _,_::_,[],_,h=>by simp [Op.bytesLess] at h
 | [],_::_,_::_,_,_=>by simp [Op.bytesLess]
 | x::a,y::b,z::c,h1,h2=>by
  simp only [Op.bytesLess,Bool.or_eq_true,Bool.and_eq_true,decide_eq_true_eq,beq_iff_eq] at h1 h2 ⊢
  rcases h1 with h1 | ⟨rfl,h1⟩
  ·
   rcases h2 with h2 | ⟨rfl,h2⟩
   . exact Or.inl (UInt8.lt_trans h1 h2)
   . exact Or.inl h1
  ·
   rcases h2 with h2 | ⟨rfl,h2⟩
   . exact Or.inl h2
   . exact Or.inr ⟨rfl,less_trans a b c h1 h2⟩
theorem less_total:∀ (a b:List UInt8),Op.bytesLess a b=true\/a=b\/Op.bytesLess b a=true
 | [],[]=>Or.inr (Or.inl rfl)
 | [],_::_=>Or.inl rfl
 | _::_,[]=>Or.inr (Or.inr rfl)
 | x::a,y::b=>by
  simp only [Op.bytesLess,Bool.or_eq_true,Bool.and_eq_true,decide_eq_true_eq,beq_iff_eq,List.cons.injEq]
  have ht:x<y\/x=y\/y<x:=by
   by_cases h1:x<y
   . exact Or.inl h1
   ·
    by_cases h2:y<x
    . exact Or.inr (Or.inr h2)
    . exact Or.inr (Or.inl (UInt8.le_antisymm (UInt8.not_lt.1 h2) (UInt8.not_lt.1 h1)))
  rcases ht with h | rfl | h
  . exact Or.inl (Or.inl h)
  ·
   rcases less_total a b with h | rfl | h
   . exact Or.inl (Or.inr ⟨rfl,h⟩)
   . exact Or.inr (Or.inl ⟨rfl,rfl⟩)
   . exact Or.inr (Or.inr (Or.inr ⟨rfl,h⟩))
  . exact Or.inr (Or.inr (Or.inl h))
theorem less_asymm {a b:List UInt8} (h:Op.bytesLess a b=true):Op.bytesLess b a=false:=by
 cases e:Op.bytesLess b a with
 | false=>rfl
 | true=>have:=less_trans _ _ _ e h;rw [less_irrefl] at this;cases this
theorem less_ne {a b:List UInt8} (h:Op.bytesLess a b=true):a≠b:=fun e=>by rw [e,less_irrefl] at h;cases h
theorem bytes_ext {a b:ByteArray} (h:a.toList=b.toList):a=b:=by
 rw [ByteArray.toList_eq,ByteArray.toList_eq] at h
 exact ByteArray.ext (Array.toList_inj.1 h)
theorem bytes_iff {a b:ByteArray}:a.toList=b.toList ↔ a=b:=⟨bytes_ext,fun h=>by rw [h]⟩
theorem cmpS_lt (a b:ByteArray):cmpS a b<0 ↔ Op.bytesLess a.toList b.toList=true:=by
 unfold cmpS lessS
 cases h:Op.bytesLess a.toList b.toList
 . simp;split <;> omega
 . simp
theorem cmpS_gt (a b:ByteArray):0<cmpS a b ↔ Op.bytesLess b.toList a.toList=true:=by
 unfold cmpS lessS
 rcases less_total a.toList b.toList with h | h | h
 . simp [h,less_asymm h]
 . simp [h,less_irrefl]
 . simp [h,less_asymm h,(less_ne h).symm]
structure Tot {α:Type} (c:α->α->Int):Prop where
 zero:∀ a b,c a b=0 ↔ a=b
 swap:∀ a b,c a b<0 ↔ 0<c b a
 trans:∀ a b d,c a b<0->c b d<0->c a d<0
namespace Tot
variable {α β : Type} {c : α -> α -> Int} {c2 : β -> β -> Int}
theorem self (h:Tot c) (a:α):c a a=0:=(h.zero a a).2 rfl
theorem irrefl (h:Tot c) (a:α):¬ c a a<0:=by rw [h.self];omega
theorem asymm (h:Tot c) {a b:α} (h1:c a b<0):¬ c b a<0:=fun h2=>h.irrefl a (h.trans _ _ _ h1 h2)
theorem le_of (h:Tot c) {a b:α}:¬ c a b<0 ↔ c b a<=0:=by
 have:=h.swap a b
 constructor <;> intro h1 <;> omega
theorem total (h:Tot c) (a b:α):c a b<0\/a=b\/c b a<0:=by
 have h1:=h.zero a b
 have h2:=h.swap b a
 by_cases e:c a b=0
 . exact Or.inr (Or.inl (h1.1 e))
 . omega
theorem le_lt (h:Tot c) {a b d:α} (h1:c a b<=0) (h2:c b d<0):c a d<0:=by
 by_cases e:c a b=0
 . rw [(h.zero a b).1 e];exact h2
 . exact h.trans _ _ _ (by omega) h2
theorem lt_le (h:Tot c) {a b d:α} (h1:c a b<0) (h2:c b d<=0):c a d<0:=by
 by_cases e:c b d=0
 . rw [<-(h.zero b d).1 e];exact h1
 . exact h.trans _ _ _ h1 (by omega)
theorem le_le (h:Tot c) {a b d:α} (h1:c a b<=0) (h2:c b d<=0):c a d<=0:=by
 by_cases e:c a b=0
 . rw [(h.zero a b).1 e];exact h2
 . have:=h.lt_le (a:=a) (b:=b) (by omega) h2;omega
theorem anti (h:Tot c) {a b:α} (h1:c a b<=0) (h2:c b a<=0):a=b:=by
 have:=h.swap a b
 have:=h.swap b a
 exact (h.zero a b).1 (by omega)
theorem int:Tot cmpI:=⟨fun a b=>by unfold cmpI;repeat' split;all_goals omega,fun a b=>by unfold cmpI;repeat' split;all_goals omega,fun a b d=>by unfold cmpI;repeat' split;all_goals omega⟩
theorem str:Tot cmpS:=by
 have z:∀ a b,cmpS a b=0 ↔ a=b:=by
  intro a b
  rw [<-bytes_iff]
  have h1:=cmpS_lt a b
  have h2:=cmpS_gt a b
  rcases less_total a.toList b.toList with h | h | h
  ·
   have:=h1.2 h;constructor
   . omega
   . intro e;exact absurd e (less_ne h)
  ·
   constructor
   . intro _;exact h
   ·
    intro _
    rw [h,less_irrefl] at h1 h2
    simp at h1 h2;omega
  ·
   have:=h2.2 h;constructor
   . omega
   . intro e;exact absurd e.symm (less_ne h)
 exact⟨z,fun a b=>by rw [cmpS_lt,cmpS_gt],fun a b d h1 h2=>by rw [cmpS_lt] at *;exact less_trans _ _ _ h1 h2⟩
def lex (c:α->α->Int) (c2:β->β->Int) (a b:α × β):Int:=if c a.1 b.1=0 then c2 a.2 b.2 else c a.1 b.1
theorem lexed (h:Tot c) (h2:Tot c2):Tot (lex c c2):=by
 refine⟨?_,?_,?_⟩
 ·
  rintro⟨a,x⟩ ⟨b,y⟩
  show (if c a b=0 then c2 x y else c a b)=0 ↔ _
  rw [Prod.mk.injEq,<-h.zero a b,<-h2.zero x y]
  split <;> omega
 ·
  rintro⟨a,x⟩ ⟨b,y⟩
  show (if c a b=0 then c2 x y else c a b)<0 ↔ 0<(if c b a=0 then c2 y x else c b a)
  have s:=h.swap a b
  have s2:=h.swap b a
  have s3:=h2.swap x y
  repeat' split
  all_goals omega
 ·
  rintro⟨a,x⟩ ⟨b,y⟩ ⟨d,z⟩
  show (if c a b=0 then c2 x y else c a b)<0->(if c b d=0 then c2 y z else c b d)<0->(if c a d=0 then c2 x z else c a d)<0
  intro h1 h3
  by_cases e1:c a b=0
  ·
   obtain rfl:=(h.zero a b).1 e1
   rw [if_pos e1] at h1
   by_cases e2:c a d=0
   . rw [if_pos e2] at h3 ⊢;exact h2.trans _ _ _ h1 h3
   . rw [if_neg e2] at h3 ⊢;exact h3
  ·
   rw [if_neg e1] at h1
   by_cases e2:c b d=0
   ·
    obtain rfl:=(h.zero b d).1 e2
    rw [if_neg e1];exact h1
   ·
    rw [if_neg e2] at h3
    have:=h.trans _ _ _ h1 h3
    rw [if_neg (by omega)];exact this
theorem pull (h:Tot c) (f:β->α) (hf:∀ a b,f a=f b->a=b):Tot fun a b=>c (f a) (f b):=
 ⟨fun a b=>(h.zero _ _).trans ⟨hf a b,fun e=>by rw [e]⟩,fun a b=>h.swap _ _,fun a b d=>h.trans _ _ _⟩
theorem row (h:Tot c):Tot (rowC c):=by
 refine⟨?_,?_,?_⟩
 ·
  intro a
  induction a with
  | nil=>intro b;cases b <;> simp [rowC]
  | cons x a ih=>
   intro b
   cases b with
   | nil=>simp [rowC]
   | cons y b=>
    rw [rowC,List.cons.injEq,<-h.zero x y,<-ih b]
    split <;> omega
 ·
  intro a
  induction a with
  | nil=>intro b;cases b <;> simp [rowC]
  | cons x a ih=>
   intro b
   cases b with
   | nil=>simp [rowC]
   | cons y b=>
    rw [rowC,rowC]
    have s:=h.swap x y
    have s2:=h.swap y x
    have s3:=ih b
    repeat' split
    all_goals omega
 ·
  intro a
  induction a with
  | nil=>
   intro b d
   cases b <;> cases d <;> simp [rowC]
  | cons x a ih=>
   intro b d
   cases b with
   | nil=>cases d <;> simp [rowC]
   | cons y b=>
    cases d with
    | nil=>simp [rowC]
    | cons z d=>
     rw [rowC,rowC,rowC]
     intro h1 h3
     by_cases e1:c x y=0
     ·
      obtain rfl:=(h.zero x y).1 e1
      rw [if_pos e1] at h1
      by_cases e2:c x z=0
      . rw [if_pos e2] at h3 ⊢;exact ih _ _ h1 h3
      . rw [if_neg e2] at h3 ⊢;exact h3
     ·
      rw [if_neg e1] at h1
      by_cases e2:c y z=0
      ·
       obtain rfl:=(h.zero y z).1 e2
       rw [if_neg e1];exact h1
      ·
       rw [if_neg e2] at h3
       have:=h.trans _ _ _ h1 h3
       rw [if_neg (by omega)];exact this
end Tot
def Rises {α:Type} (c:α->α->Int) (l:List α):Prop:=l.Pairwise fun a b=>c a b<0
theorem Rises.unique {α:Type} {c:α->α->Int} (h:Tot c) {l m:List α} (hl:Rises c l) (hm:Rises c m) (e:∀ x,x∈l ↔ x∈m):l=m:=by
 induction l generalizing m with
 | nil=>
  cases m with
  | nil=>rfl
  | cons y m=>exact absurd ((e y).2 (by simp)) (by simp)
 | cons x l ih=>
  cases m with
  | nil=>exact absurd ((e x).1 (by simp)) (by simp)
  | cons y m=>
   obtain⟨hx,hl'⟩:=List.pairwise_cons.1 hl
   obtain⟨hy,hm'⟩:=List.pairwise_cons.1 hm
   have exy:x=y:=by
    rcases List.mem_cons.1 ((e x).1 (by simp)) with h1 | h1
    . exact h1
    ·
     rcases List.mem_cons.1 ((e y).2 (by simp)) with h2 | h2
     . exact h2.symm
     . exact absurd (hx y h2) (h.asymm (hy x h1))
   subst exy
   refine congrArg (x::·) (ih hl' hm' fun z=>?_)
   constructor
   ·
    intro hz
    rcases List.mem_cons.1 ((e z).1 (List.mem_cons_of_mem _ hz)) with h1 | h1
    . subst h1;exact absurd (hx z hz) (h.irrefl z)
    . exact h1
   ·
    intro hz
    rcases List.mem_cons.1 ((e z).2 (List.mem_cons_of_mem _ hz)) with h1 | h1
    . subst h1;exact absurd (hy z hz) (h.irrefl z)
    . exact h1
