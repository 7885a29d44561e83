/- PkSlRow. -/
import Derived.Lib.AppendZerosOnto
import Derived.Lib.Overlaps
import Derived.Lib.SlicesDelete
import Derived.Laws.Externs
import Derived.Deep.RegionLaw
import Derived.IntWalk
import Derived.Deep.Upon
import Derived.Test.YtpeoonnglnchnaaGreatDoorMutCopies
set_option linter.unusedSectionVars false
set_option linter.unusedSimpArgs false
set_option linter.unusedVariables false
set_option maxHeartbeats 16000000
set_option maxRecDepth 100000
namespace Go.Proofs.YtpeoonnglnchnaaGreatDoor
open RowKit
section
variable {P : Program}
theorem run_copy_k (w:World) (dT sT ty elem:TypeId) (k g o dLen dCap:Nat) (a:Addr) (sLen sCap:Nat) (cur:List Value) (t:TypeId) (n:Nat) (cs:List Value)
  (hu:P.underlying dT=some (.slice elem)) (hs:(P.info? elem).map (·.size)=some k)
  (hg:w.heap[g]?=some (.cells ⟨cur⟩ t (0,0))) (hl:cs.length=n*k) (hn:n=Nat.min sLen dLen)
  (hsrc:∀ j v,cs[j]?=some v->w.cell? (a.add j)=some v) (hfit:o+cs.length<=cur.length) (h1:∀ v∈cs,v.oneCell'=true) :
  (Builtin.copy_ #[dT,sT] ty #[.slice (some ⟨g,o,none⟩) dLen dCap,.slice (some a) sLen sCap]).run P w=.ok (goInt n) (w.setRow g ⟨splice cur o cs⟩):=by
 have hf:=run_firstCells_some (P:=P) w k n a sLen sCap cs hl hsrc
 have hst:=run_storeCells_at P g o t cs 0 ⟨cur⟩ w hg (by simpa using hfit) h1
 cases hq:P.info? elem with
 | none=>simp [hq] at hs
 | some i=>
  have hi:i.size=k:=by simpa [hq] using hs
  simp [Builtin.copy_,run_underlying hu,Builtin.lenOf,sizeOf,typeInfo,hq,hi,<-hn,hf,hst,splice]
theorem wpList_copy_k (w:World) {ops:Array Oper} {rest:List Oper} {o:Oper} {a:Act} {Q:Exit->Act->World->Prop} (hgd:o.guard=none) (d s:Operand) (dT sT:TypeId)
  (ho:o.op=.call { callee:=.builtin .copy,args:=#[d,s],argTypes:=#[dT,sT] }) (elem:TypeId) (k:Nat) (hu:P.underlying dT=some (.slice elem)) (hsz:(P.info? elem).map (·.size)=some k)
  (g off dLen dCap:Nat) (ad:Addr) (sLen sCap:Nat) (hd:a.eval d=.slice (some ⟨g,off,none⟩) dLen dCap) (hs:a.eval s=.slice (some ad) sLen sCap)
  (cur:List Value) (t:TypeId) (hg:w.heap[g]?=some (.cells ⟨cur⟩ t (0,0))) (n:Nat) (cs:List Value) (hl:cs.length=n*k) (hn:n=Nat.min sLen dLen)
  (hsrc:∀ j v,cs[j]?=some v->w.cell? (ad.add j)=some v) (hfit:off+cs.length<=cur.length) (h1:∀ v∈cs,v.oneCell'=true)
  (h:wpList P ops Q rest (a.put o.dst (goInt n)) (w.setRow g ⟨splice cur off cs⟩)):wpList P ops Q (o::rest) a w:=by
 refine wpList_plain hgd fun K hK=>?_
 have hrun:=run_copy_k (P:=P) w dT sT o.type elem k g off dLen dCap ad sLen sCap cur t n cs hu hsz hg hl hn hsrc hfit h1
 unfold Oper.wp
 simp [execOp,ho,resolve,invoke,builtin,hd,hs,hrun,Result.andThen]
 exact hK _ _ h
theorem step_copy_k {ops:Array Oper} {o:Oper} {a:Act} {w:World} {K:Act->World->Prop} {Q:Exit->Act->World->Prop} {E:Prop} (hgd:o.guard=none) (d s:Operand) (dT sT:TypeId)
  (ho:o.op=.call { callee:=.builtin .copy,args:=#[d,s],argTypes:=#[dT,sT] }) (elem:TypeId) (k:Nat) (hu:P.underlying dT=some (.slice elem)) (hsz:(P.info? elem).map (·.size)=some k)
  (g off dLen dCap:Nat) (ad:Addr) (sLen sCap:Nat) (hd:a.eval d=.slice (some ⟨g,off,none⟩) dLen dCap) (hs:a.eval s=.slice (some ad) sLen sCap)
  (cur:List Value) (t:TypeId) (hg:w.heap[g]?=some (.cells ⟨cur⟩ t (0,0))) (n:Nat) (cs:List Value) (hl:cs.length=n*k) (hn:n=Nat.min sLen dLen)
  (hsrc:∀ j v,cs[j]?=some v->w.cell? (ad.add j)=some v) (hfit:off+cs.length<=cur.length) (h1:∀ v∈cs,v.oneCell'=true)
  (h:K (a.put o.dst (goInt n)) (w.setRow g ⟨splice cur off cs⟩)) :
  if Region.wanted o (yielded ops a.tmps)=true then Oper.wp P o a w K Q else E:=by
 have hw:Region.wanted o (yielded ops a.tmps)=true:=by simp [Region.wanted,hgd]
 rw [if_pos hw]
 have hrun:=run_copy_k (P:=P) w dT sT o.type elem k g off dLen dCap ad sLen sCap cur t n cs hu hsz hg hl hn hsrc hfit h1
 unfold Oper.wp
 simp [execOp,ho,resolve,invoke,builtin,hd,hs,hrun,Result.andThen]
 exact h
end
theorem setRow_size (w:World) (g:Nat) (cs:Array Value):(w.setRow g cs).heap.size=w.heap.size:=by simp [World.setRow]
theorem grown_setRow {a w:World} {g:Nat} {row:Option Nat} (h:a.grownBy w row) (hg:row=some g\/a.heap.size<=g) (cs:Array Value):a.grownBy (w.setRow g cs) row:=
 ⟨h.os,h.tape,h.output,by rw [setRow_size];exact h.size,fun i hi hne=>(setRow_other w g i cs (by
  rintro rfl
  rcases hg with hg | hg
  . exact hne hg.symm
  . omega)).trans (h.block i hi hne)⟩
theorem grown_refl (w:World) (row:Option Nat):w.grownBy w row:=⟨rfl,rfl,rfl,Nat.le_refl _,fun _ _ _=>rfl⟩
theorem own_whole {w:World} {base:Nat} {e:TypeId} {k:Nat} {v:Value} {n:Nat} {xs:List Value} (h:w.ownsRow base e k v n xs) (hn:0<n) :
  ∃ g cap spare,v=.slice (some ⟨g,0,none⟩) n cap/\base<=g/\g<w.heap.size/\w.heap[g]?=some (.cells ⟨xs++spare⟩ e (0,0))/\n<=cap/\cap<=maxLen/\(xs++spare).length=cap*k/\xs.length=n*k:=by
 obtain⟨h0,h1⟩:=h
 rcases h1 with ⟨_,h2⟩ | ⟨g,cap,cur,hv,hb,hg,h3,h4,h5,h6⟩
 . omega
 ·
  have e:xs++cur.toList.drop (n*k)=cur.toList:=by rw [<-h6];exact List.take_append_drop _ _
  refine⟨g,cap,cur.toList.drop (n*k),hv,hb,(ag0.1 hg).1,?_,h3,h4,?_,h0⟩
  . rw [e];exact hg
  . rw [e];simpa using h5
theorem own_mk {w:World} {base:Nat} {e:TypeId} {k g cap n:Nat} {xs spare:List Value} (hb:base<=g) (hg:w.heap[g]?=some (.cells ⟨xs++spare⟩ e (0,0))) (h1:n<=cap) (h2:cap<=maxLen) (h3:(xs++spare).length=cap*k) (h4:xs.length=n*k) :
  w.ownsRow base e k (.slice (some ⟨g,0,none⟩) n cap) n xs:=
 ⟨h4,.inr ⟨g,cap,⟨xs++spare⟩,rfl,hb,hg,h1,h2,by simpa using h3,by simp [<-h4]⟩⟩
theorem cells_at {w:World} {g:Nat} {cur:List Value} {t:TypeId} (hg:w.heap[g]?=some (.cells ⟨cur⟩ t (0,0))) (o:Nat):w.cell? ⟨g,o,none⟩=cur[o]?:=by
 unfold World.cell?
 rw [hg]
 simp
theorem free_at {w:World} {g:Nat} {cur:List Value} {t:TypeId} (hg:w.heap[g]?=some (.cells ⟨cur⟩ t (0,0))) (o:Nat):w.frozen? ⟨g,o,none⟩=false:=by
 unfold World.frozen?
 rw [hg]
 simp
theorem shape_at {w:World} {g:Nat} {cur:List Value} {t:TypeId} (hg:w.heap[g]?=some (.cells ⟨cur⟩ t (0,0))):w.shape? g=some (t,cur.length):=by
 unfold World.shape?
 rw [hg]
 simp
section
variable {P : Program}
theorem run_clear_k (w:World) (t e ty:TypeId) (z:Value) (k:Nat) (ht:P.underlying t=some (.slice e)) (hv:∀ w,(zeroValue e).run P w=.ok z w) (hz:z.cells.size=k) (h1:∀ u∈z.cells,u.oneCell'=true)
  (g o n c:Nat) (cur:List Value) (et:TypeId) (hg:w.heap[g]?=some (.cells ⟨cur⟩ et (0,0))) (hfit:o+n*k<=cur.length) :
  ∃ sp:List Value,sp.length=n*k/\(Builtin.clear_ #[t] ty #[.slice (some ⟨g,o,none⟩) n c]).run P w=.ok (.tuple #[]) (w.setRow g ⟨splice cur o sp⟩):=by
 cases n with
 | zero=>
  refine⟨[],by simp,?_⟩
  have e1:splice cur o []=cur:=by simp [splice]
  rw [e1,setRow_self w g _ et _ hg]
  simp [Builtin.clear_,run_underlying ht]
 | succ n=>
  refine⟨(Builtin.zeroCells z.cells (n+1)).toList,by rw [Array.length_toList,size_zeroCells,hz],?_⟩
  have hl:(Builtin.zeroCells z.cells (n+1)).toList.length=(n+1)*k:=by rw [Array.length_toList,size_zeroCells,hz]
  have hst:=run_storeCells_at P g o et (Builtin.zeroCells z.cells (n+1)).toList 0 ⟨cur⟩ w hg (by rw [hl];simpa using hfit) (fun u hu=>by
   simp only [Builtin.zeroCells,Array.toList_map,List.mem_map] at hu
   obtain⟨j,hj,rfl⟩:=hu
   have hk:0<z.cells.size:=by
    rcases Nat.eq_zero_or_pos z.cells.size with h0 | h0
    . rw [h0] at hj;simp at hj
    . exact h0
   have hlt:=Nat.mod_lt j hk
   rw [getElem!_pos z.cells _ hlt]
   exact h1 _ (Array.getElem_mem hlt))
  simp [Builtin.clear_,run_underlying ht,hv,hst,splice]
theorem wpList_clear_k (w:World) {ops:Array Oper} {rest:List Oper} {o:Oper} {a:Act} {Q:Exit->Act->World->Prop} (hgd:o.guard=none) (x:Operand) (t:TypeId)
  (ho:o.op=.call { callee:=.builtin .clear,args:=#[x],argTypes:=#[t] }) (e:TypeId) (z:Value) (k:Nat) (ht:P.underlying t=some (.slice e)) (hv:∀ w,(zeroValue e).run P w=.ok z w) (hz:z.cells.size=k) (h1:∀ u∈z.cells,u.oneCell'=true)
  (g off n c:Nat) (hx:a.eval x=.slice (some ⟨g,off,none⟩) n c) (cur:List Value) (et:TypeId) (hg:w.heap[g]?=some (.cells ⟨cur⟩ et (0,0))) (hfit:off+n*k<=cur.length)
  (h:∀ sp:List Value,sp.length=n*k->wpList P ops Q rest (a.put o.dst (.tuple #[])) (w.setRow g ⟨splice cur off sp⟩)):wpList P ops Q (o::rest) a w:=by
 refine wpList_plain hgd fun K hK=>?_
 obtain⟨sp,hl,hrun⟩:=run_clear_k (P:=P) w t e o.type z k ht hv hz h1 g off n c cur et hg hfit
 unfold Oper.wp
 simp [execOp,ho,resolve,invoke,builtin,hx,hrun,Result.andThen]
 exact hK _ _ (h sp hl)
end
section
variable {P : Program}
end
def InsPost (w:World) (base:Nat) (e:TypeId) (k:Nat) (ob:Option Nat) (n:Nat) (ys:List Value) (en:Ending) (w':World):Prop:=
 ∃ g cap,en=.returned (.slice (some ⟨g,0,none⟩) (n+1) cap)/\w'.ownsRow base e k (.slice (some ⟨g,0,none⟩) (n+1) cap) (n+1) ys/\w.grownBy w' ob/\(ob=some g\/w.heap.size<=g)
end Go.Proofs.YtpeoonnglnchnaaGreatDoor
namespace Go.Proofs.YtpeoonnglnchnaaGreatDoor.Mut
open Go.Lib (hid)
open RowKit Go.Sort YtpeoonnglnchnaaGreatDoor.Ord
variable [Inhabited Lim]
theorem wpList_store_k {P:Program} (w:World) {ops:Array Oper} {rest:List Oper} {o:Oper} {a:Act} {Q:Exit->Act->World->Prop} (hgd:o.guard=none) (ty:TypeId) (x y:Operand) (ho:o.op=.store ty x y)
  (g off:Nat) (cells:List Value) (hx:a.eval x=.pointer (some ⟨g,off,none⟩)) (hy:a.eval y=.agg ⟨cells⟩) (cur:List Value) (t:TypeId) (hg:w.heap[g]?=some (.cells ⟨cur⟩ t (0,0)))
  (hi:(P.info? ty).map (·.size)=some cells.length) (hfit:off+cells.length<=cur.length) (h1:∀ u∈cells,u.oneCell'=true)
  (h:wpList P ops Q rest (a.put o.dst undef) (w.setRow g ⟨splice cur off cells⟩)):wpList P ops Q (o::rest) a w:=by
 refine wpList_plain hgd fun K hK=>?_
 have hst:=run_storeCells_at P g off t cells 0 ⟨cur⟩ w hg (by simpa using hfit) h1
 cases hq:P.info? ty with
 | none=>simp [hq] at hi
 | some i=>
  have hs:i.size=cells.length:=by simpa [hq] using hi
  unfold Oper.wp
  simp [execOp,ho,hx,hy,Instr.storeAt,Instr.sureAddr,storeVar,sizeOf,typeInfo,hq,hs,Value.cells,hst,Result.andThen,splice]
  exact hK _ _ (by simpa [splice] using h)
theorem flat_splice (L:List Ro) (spare:List Value) (i:Nat) (x:Ro) (hi:i<L.length):splice (L.flatMap enM++spare) (i*10) (enM x)=(L.set i x).flatMap enM++spare:=by
 have h10:∀ (l:List Ro),(l.flatMap enM).length=l.length*10:=flatMap_len enM_len
 have e:L=L.take i++L[i]::L.drop (i+1):=by rw [<-dg0 hi,List.take_append_drop]
 have e1:(L.set i x)=L.take i++x::L.drop (i+1):=by rw [List.set_eq_take_append_cons_drop,if_pos hi]
 unfold splice
 rw [e1]
 have hA:(L.flatMap enM)=(L.take i).flatMap enM++(enM L[i]++(L.drop (i+1)).flatMap enM):=by
  conv=>lhs;rw [e]
  rw [fa0,List.flatMap_cons]
 have hl:((L.take i).flatMap enM).length=i*10:=by rw [h10,List.length_take,Nat.min_eq_left (by omega)]
 rw [hA,List.append_assoc,List.take_left' hl,fa0,List.flatMap_cons]
 have hd:((L.take i).flatMap enM++((enM L[i]++(L.drop (i+1)).flatMap enM)++spare)).drop (i*10+(enM x).length)=(L.drop (i+1)).flatMap enM++spare:=by
  rw [<-List.append_assoc,<-List.append_assoc,List.append_assoc]
  exact List.drop_left' (by rw [la0,hl,enM_len,enM_len])
 rw [hd]
 simp [List.append_assoc]
theorem zero_M (w:World):(zeroValue 42).run Tryz.prog w=.ok zeroM w:=by kernel_rfl
def DelP (base:Nat) (w:World) (v:Value) (K:List Ro) (r:Ending) (w':World):Prop:=∃ v',r=.returned v'/\w'.ownsRow base 42 10 v' K.length (K.flatMap enM)/\w.grownBy w' v.ownBlock/\v'.ownBlock=v.ownBlock
theorem heap_alloc_old' (w:World) (o:Obj) (i:Nat) (h:i<w.heap.size):(w.alloc o).heap[i]?=w.heap[i]?:=by
 show (w.heap.push o)[i]?=w.heap[i]?
 rw [Array.getElem?_push,if_neg (Nat.ne_of_lt h)]
theorem info_sizeM (l:List Value) (h:l.length=10):(Tryz.prog.info? 42).map (·.size)=some l.length:=by rw [h];exact size_M
theorem delete_some (base gg cap:Nat) (spare:List Value) (R:List Ro) (gf:FuncId) (cb:Array Value) (p:Mu->Bool) (w:World) (hb:base<=gg) (hg:gg<w.heap.size) (hheap:w.heap[gg]?=some (.cells ⟨R.flatMap enM++spare⟩ 42 (0,0)))
  (hnc:R.length<=cap) (hcm:cap<=maxLen) (hsz:(R.flatMap enM++spare).length=cap*10) (hf:∀ x∈R,∃ ao n cap,x.2=.slice ao n cap) (hn:R.length<=1000000) (hp:Asks w (some gg) gf cb p)
  (he:∀ args w,(callFunc gf args).run Tryz.prog w=.ok (.enter gf args) w) (hidx:¬ idxF p (R.map (·.1)) 0=-1) :
  Calls Tryz.prog 129 #[.slice (some ⟨gg,0,none⟩) R.length cap,.func (.func gf) #[] cb] w (DelP base w (.slice (some ⟨gg,0,none⟩) R.length cap) (R.filter fun x=>!p x.1)):=by
 have hlst:Lst 10 enM w (.slice (some ⟨gg,0,none⟩) R.length cap) R:=⟨_,cap,rfl,hnc,hcm,Or.inr ⟨gg,0,rfl,hg,fun i x hi j hj=>by
  rw [cells_at hheap,Nat.zero_add]
  have hlt:i<R.length:=(gs0.1 hi).1
  rw [List.getElem?_append_left (by rw [flatMap_len enM_len];omega)]
  exact flatMap_get enM_len R i x hi j hj⟩⟩
 have hix:=index_any _ R gf cb p (some gg) w hlst hf hn hp he
 obtain⟨A,x0,B,eR,px0,pA,eI⟩:=idxF_some (R.map (·.1)) 0 hidx
 rw [Nat.zero_add] at eI
 obtain⟨i0,hi0⟩:∃ i0,i0=A.length:=⟨_,rfl⟩
 rw [<-hi0] at eI
 rw [eI] at hix
 have hlenR:R.length=A.length+(B.length+1):=by
  have:=congrArg List.length eR
  simpa using this
 obtain⟨n,hnn⟩:∃ n,n=R.length:=⟨_,rfl⟩
 have hin:i0<n:=by omega
 have hstart:R.take i0=(R.take (i0+1)).filter (fun x=>!p x.1):=by
  have hgetA:∀ k (hk:k<R.length),k<i0->p R[k].1=false:=by
   intro k hk hki
   have h1:(R.map (·.1))[k]?=some R[k].1:=by simp [hk]
   rw [eR,List.getElem?_append_left (by omega)] at h1
   exact pA _ (mg0 h1)
  have hget0:∀ (hk:i0<R.length),p R[i0].1=true:=by
   intro hk
   have h1:(R.map (·.1))[i0]?=some R[i0].1:=by simp [hk]
   rw [eR,List.getElem?_append_right (by omega),show i0 - A.length=0 by omega] at h1
   have h2:x0=R[i0].1:=by simpa using h1
   rw [<-h2];exact px0
  have hlt:i0<R.length:=by omega
  rw [List.take_add_one,ge0 hlt,List.filter_append]
  have e1:(R.take i0).filter (fun x=>!p x.1)=R.take i0:=by
   rw [List.filter_eq_self]
   intro y hy
   obtain⟨k,hk,e⟩:=List.getElem_of_mem hy
   rw [List.getElem_take] at e
   rw [<-e,hgetA k (by rw [List.length_take] at hk;omega) (by rw [List.length_take] at hk;omega)];rfl
  rw [e1]
  simp [hget0 hlt]
 rw [<-hnn] at hix hnc hn ⊢
 obtain⟨v0,hv0⟩:∃ v0:Value,v0=.slice (some ⟨gg,0,none⟩) n cap:=⟨_,rfl⟩
 rw [<-hv0]
 have HIX:=hid hix
 have HP:=hid hp
 have HF:=hid hf
 have HN:=hid hnn
 have HS:=hid hstart
 have HH:=hid hheap
 have HSZ:=hid hsz
 have HV0:=hid hv0
 rw [hv0]
 clear hlst hix hp hf hnn hstart hheap hsz eR px0 pA eI hlenR hidx hi0 hv0
 go_enter Tryz.func129,Tryz.ntmps129
 go_wp2_with fail
 refine HIX.out.mono ?_
 rintro e w1 ⟨rfl,hb1⟩
 have hh1:=(hb1.block _ hg).trans HH.out
 have HH1:=hid hh1
 have hgr1:w.grownBy w1 (some gg):=grown_below hb1 _
 have hne:¬ ((i0:Int)=-1):=by omega
 go_wp2_with fail
 have hw0:IntKind.i64.wrap ((i0:Int)+1)=(i0:Int)+1:=IntWalk.i64_in _ (by omega)
 go_loopw [5,6] (fun iv jv wr=>∃ (i j:Nat) (L:List Ro),iv=.int .i64 i/\jv=.int .i64 j/\i<j/\j<=n/\Hid (L.length=n/\L.take i=(R.take j).filter (fun x=>!p x.1)/\L.drop j=R.drop j/\wr.heap[gg]?=some (.cells ⟨L.flatMap enM++spare⟩ 42 (0,0)))/\w.grownBy wr (some gg)) (fun _ jv _=>n - (intOf jv).toNat)
 case atStart=>exact⟨i0,i0+1,R,rfl,by first | rfl | go_num,by omega,by omega,hid ⟨HN.out.symm,HS.out,rfl,HH1.out⟩,hgr1⟩
 case round=>
  obtain⟨i,j,L,rfl,rfl,hij,hjn,hL,hgr⟩:=hrel
  have hgw:gg<wr.heap.size:=Nat.lt_of_lt_of_le hg hgr.size
  by_cases hlt:j<n
  ·
   have hjr:j<R.length:=by have:=HN.out;omega
   obtain⟨x,hx⟩:∃ x,R[j]?=some x:=⟨_,ge0 hjr⟩
   have hxe:R[j]=x:=(gs0.1 hx).2
   obtain⟨hl1,hl2,hl3,hl4⟩:=hL.out
   have hLj:L[j]?=some x:=by
    have h1:(L.drop j)[0]?=(R.drop j)[0]?:=by rw [hl3]
    rw [List.getElem?_drop,List.getElem?_drop,Nat.add_zero] at h1
    rw [h1,hx]
   have hat:At wr gg (j*10) x:=At.of hgw fun c hc=>by
    rw [cells_at hl4,List.getElem?_append_left (by rw [flatMap_len enM_len];omega)]
    exact flatMap_get enM_len L j x hLj c hc
   obtain⟨-,a0,a1,a2,a3,a4,a5,a6,a7,a8,a9⟩:=hat
   obtain⟨xo,xn,xc,xe⟩:=HF.out x (mg0 hx)
   have htk:(R.take (j+1)).filter (fun x=>!p x.1)=(R.take j).filter (fun x=>!p x.1)++(if p x.1 then [] else [x]):=by
    rw [List.take_add_one,hx,List.filter_append]
    cases hpx:p x.1 <;> simp [hpx]
   have hd1:L.drop (j+1)=R.drop (j+1):=by
    rw [<-List.drop_drop,<-List.drop_drop,hl3]
   have hasks:=fun (z:World) (h:w.grownBy z (some gg))=>HP.out x z h ⟨xo,xn,xc,xe⟩
   unfold vM at hasks
   rw [xe] at hasks a9
   obtain⟨q,hq⟩:∃ q,q=p x.1:=⟨_,rfl⟩
   rw [<-hq] at hasks htk
   have HASK:=hid hasks
   have HTK:=hid htk
   have HD1:=hid hd1
   have hXE:=hid xe
   clear hl1 hl2 hl3 hl4 hLj hasks htk hd1 hq hx hxe xe
   cases q
   ·
    go_wp2_with fail
    refine (HASK.out _ ?gr).mono ?_
    case gr=>exact grown_alloc hgr _
    rintro e w2 ⟨rfl,hb2⟩
    have hex:(enM x).toArray=#[.int .i64 x.1.table,.int .i64 x.1.kind,.string x.1.key,.string x.1.fin,.string x.1.val,.int .i64 x.1.expiry,.int .i64 x.1.at_.p,.int .i64 x.1.at_.l,.int .i64 x.1.at_.w,.slice xo xn xc]:=by rw [<-hXE.out];rfl
    have hgr2:w.grownBy w2 (some gg):=grown_then (grown_alloc hgr _) hb2
    have hnew:=At.new wr 42 x
    rw [hex] at hnew
    have hnew:=hnew.below hb2
    obtain⟨-,d0,d1,d2,d3,d4,d5,d6,d7,d8,d9⟩:=hnew
    rw [hXE.out] at d9
    have hheap2:w2.heap[gg]?=some (.cells ⟨L.flatMap enM++spare⟩ 42 (0,0)):=(hb2.block gg (by simp;omega)).trans ((heap_alloc_old' wr _ gg hgw).trans hL.out.2.2.2)
    have hLl:=hL.out.1
    have hspl:splice (L.flatMap enM++spare) (i*10) (enM x)=(L.set i x).flatMap enM++spare:=flat_splice L spare i x (by omega)
    have hfit:i*10+(enM x).length<=(L.flatMap enM++spare).length:=by rw [enM_len,la0,flatMap_len enM_len];omega
    have hone:∀ u∈enM x,u.oneCell'=true:=by
     have h:=flatM_one (l:=[x]) (fun y hy=>by rw [List.mem_singleton.1 hy];exact⟨xo,xn,xc,hXE.out⟩)
     simpa using h
    have H2:=hid hheap2
    have HSP:=hid hspl
    have HFIT:=hid hfit
    have HONE:=hid hone
    clear hheap2 hspl hfit hone
    have hwi:IntKind.i64.wrap ((i:Int)+1)=(i:Int)+1:=IntWalk.i64_in _ (by omega)
    have hexl:Value.agg #[.int .i64 x.1.table,.int .i64 x.1.kind,.string x.1.key,.string x.1.fin,.string x.1.val,.int .i64 x.1.expiry,.int .i64 x.1.at_.p,.int .i64 x.1.at_.l,.int .i64 x.1.at_.w,.slice xo xn xc]=.agg ⟨enM x⟩:=by rw [<-hex]
    have HEXL:=hid hexl
    have hgr3:=fun cs=>grown_setRow hgr2 (Or.inl rfl) (g:=gg) cs
    have HGR3:=hid hgr3
    have hrow3:=setRow_heap w2 gg ⟨L.flatMap enM++spare⟩ ⟨splice (L.flatMap enM++spare) (i*10) (enM x)⟩ _ _ H2.out
    rw [HSP.out] at hrow3
    have HROW3:=hid hrow3
    clear hex hexl hgr3 hrow3
    go_wp2_with (refine wpList_store_k _ rfl 42 _ _ rfl gg (i*10) (enM x) rfl HEXL.out (L.flatMap enM++spare) 42 H2.out (info_sizeM _ rfl) HFIT.out HONE.out ?_)
    rw [HSP.out]
    obtain⟨w3,hw3⟩:∃ w3,w3=w2.setRow gg ⟨(L.set i x).flatMap enM++spare⟩:=⟨_,rfl⟩
    have hgr4:=HGR3.out ⟨(L.set i x).flatMap enM++spare⟩
    have hrow4:=HROW3.out
    rw [<-hw3] at hgr4 hrow4 ⊢
    have HR4:=hid hrow4
    clear hw3 hrow4
    go_wp2_with fail
    go_roundw
    case rel=>
     refine⟨_,_,_,_,_,_,_,_,_,_,_,_,_,_,_,_,_,_,_,_,_,_,_,?_,rfl⟩
     exact⟨i+1,j+1,L.set i x,by go_num,by go_num,by omega,by omega,hid ⟨by rw [List.length_set];exact hL.out.1,by
     rw [HTK.out,<-hL.out.2.1,List.take_set,List.take_add_one,List.set_append_right _ _ (by rw [List.length_take];omega)]
     have hil:i<L.length:=by rw [hL.out.1];omega
     rw [ge0 hil,List.length_take,Nat.min_eq_left (by omega),Nat.sub_self]
     rfl,by rw [List.drop_set,if_pos (by omega)];exact HD1.out,HR4.out⟩,hgr4⟩
    case measure=>simp [intOf];omega
   ·
    go_wp2_with fail
    refine (HASK.out _ ?gr).mono ?_
    case gr=>exact grown_alloc hgr _
    rintro e w2 ⟨rfl,hb2⟩
    have hgr2:w.grownBy w2 (some gg):=grown_then (grown_alloc hgr _) hb2
    have hheap2:w2.heap[gg]?=some (.cells ⟨L.flatMap enM++spare⟩ 42 (0,0)):=(hb2.block gg (by simp;omega)).trans ((heap_alloc_old' wr _ gg hgw).trans hL.out.2.2.2)
    have H2:=hid hheap2
    clear hheap2
    go_wp2_with fail
    go_roundw
    case rel=>
     refine⟨_,_,_,_,_,_,_,_,_,_,_,_,_,_,_,_,_,_,_,_,_,_,_,?_,rfl⟩
     exact⟨i,j+1,L,rfl,by go_num,by omega,by omega,hid ⟨hL.out.1,by rw [HTK.out,hL.out.2.1];simp,HD1.out,H2.out⟩,hgr2⟩
    case measure=>simp [intOf];omega
  ·
   obtain rfl:j=n:=by omega
   obtain⟨hl1,hl2,hl3,hl4⟩:=hL.out
   have htR:R.take j=R:=List.take_of_length_le (by have:=HN.out;omega)
   rw [htR] at hl2
   obtain⟨K,hK⟩:∃ K,K=R.filter fun x=>!p x.1:=⟨_,rfl⟩
   rw [<-hK] at hl2
   have hKl:K.length=i:=by rw [<-hl2,List.length_take];omega
   have hsl:(L.flatMap enM++spare).length=cap*10:=by
    have:=HSZ.out
    rw [la0,flatMap_len enM_len] at this ⊢
    have:=HN.out
    omega
   have hnc':¬ cap=i:=by omega
   have hcl:i*10+(j - i)*10<=(L.flatMap enM++spare).length:=by rw [hsl];omega
   have HCL:=hid hcl
   have H4:=hid hl4
   have hfin:∀ sp:List Value,sp.length=(j - i)*10->DelP base w v0 K (.returned (.slice (some ⟨gg,0,none⟩) i cap)) (wr.setRow gg ⟨splice (L.flatMap enM++spare) (i*10) sp⟩):=by
    intro sp hsp
    have htake:(L.flatMap enM++spare).take (i*10)=K.flatMap enM:=by
     have e:L=L.take i++L.drop i:=(List.take_append_drop _ _).symm
     conv=>lhs;rw [e]
     rw [fa0,List.append_assoc,hl2]
     exact List.take_left' (by rw [flatMap_len enM_len,hKl])
    have hrow:=setRow_heap wr gg ⟨L.flatMap enM++spare⟩ ⟨splice (L.flatMap enM++spare) (i*10) sp⟩ _ _ hl4
    have hsplit:splice (L.flatMap enM++spare) (i*10) sp=K.flatMap enM++(sp++(L.flatMap enM++spare).drop (i*10+sp.length)):=by unfold splice;rw [htake]
    rw [hsplit] at hrow ⊢
    refine⟨_,rfl,?_,?_,by rw [HV0.out];rfl⟩
    ·
     rw [hKl]
     refine own_mk hb hrow (by omega) hcm ?_ (by rw [flatMap_len enM_len,hKl])
     rw [la0,la0,List.length_drop,hsl,hsp,flatMap_len enM_len,hKl]
     omega
    . rw [HV0.out];exact grown_setRow hgr (Or.inl rfl) _
   have HFIN:=hid hfin
   have HKK:=hid hK
   clear hl1 hl2 hl3 hl4 hK hKl hsl hcl hfin htR
   go_wp2_with (refine wpList_clear_k _ rfl _ 22 rfl 42 zeroM 10 Tryz.underlying22 zero_M rfl (by intro u hu;simp [zeroM,Value.cells] at hu;rcases hu with rfl | rfl | rfl | rfl | rfl | rfl | rfl | rfl | rfl | rfl <;> rfl) gg (i*10) (j - i) (cap - i) rfl _ 42 H4.out HCL.out ?_)
   intro sp hsp
   have hdel:=HFIN.out sp hsp
   rw [HV0.out,HKK.out] at hdel
   have HDEL:=hid hdel
   clear hdel hsp
   go_wp2_with fail
   go_ret
   exact HDEL.out
theorem delete_none (base:Nat) (v:Value) (R:List Ro) (gf:FuncId) (cb:Array Value) (p:Mu->Bool) (row:Option Nat) (w:World) (hown:w.ownsRow base 42 10 v R.length (R.flatMap enM)) (hf:∀ x∈R,∃ ao n cap,x.2=.slice ao n cap) (hn:R.length<=1000000) (hp:Asks w row gf cb p)
  (he:∀ args w,(callFunc gf args).run Tryz.prog w=.ok (.enter gf args) w) (hidx:idxF p (R.map (·.1)) 0=-1) :
  Calls Tryz.prog 129 #[v,.func (.func gf) #[] cb] w (DelP base w v (R.filter fun x=>!p x.1)):=by
 have hlst:Lst 10 enM w v R:=Lst.owned enM_len (by decide) rfl hown
 have hix:=index_any _ R gf cb p row w hlst hf hn hp he
 rw [hidx] at hix
 have hall:=(idxF_none _ _).1 hidx
 have hfl:R.filter (fun x=>!p x.1)=R:=by
  rw [List.filter_eq_self]
  intro y hy
  rw [hall y.1 (List.mem_map_of_mem hy)];rfl
 rw [hfl]
 obtain⟨ao,cap,rfl⟩:=row_form hown
 obtain⟨n,hnn⟩:∃ n,n=R.length:=⟨_,rfl⟩
 rw [<-hnn] at hix hown ⊢
 have HIX:=hid hix
 have HO:=hid hown
 have HN:=hid hnn
 clear hlst hix hall hfl hown hnn hidx hp he hf
 go_enter Tryz.func129,Tryz.ntmps129
 go_wp2_with fail
 refine HIX.out.mono ?_
 rintro e w1 ⟨rfl,hb1⟩
 go_wp2_with fail
 go_ret
 exact⟨_,rfl,by rw [<-HN.out];exact row_below HO.out hb1,grown_below hb1 _,rfl⟩
theorem delete_any (base:Nat) (v:Value) (R:List Ro) (gf:FuncId) (cb:Array Value) (p:Mu->Bool) (w:World) (hown:w.ownsRow base 42 10 v R.length (R.flatMap enM)) (hf:∀ x∈R,∃ ao n cap,x.2=.slice ao n cap) (hn:R.length<=1000000)
  (hp:Asks w v.ownBlock gf cb p) (he:∀ args w,(callFunc gf args).run Tryz.prog w=.ok (.enter gf args) w) :
  Calls Tryz.prog 129 #[v,.func (.func gf) #[] cb] w (DelP base w v (R.filter fun x=>!p x.1)):=by
 by_cases hidx:idxF p (R.map (·.1)) 0=-1
 . exact delete_none base v R gf cb p _ w hown hf hn hp he hidx
 ·
  have hpos:0<R.length:=by
   cases R with
   | nil=>exact absurd rfl hidx
   | cons x l=>simp
  obtain⟨g,cap,spare,rfl,h1,h2,h3,h4,h5,h6,h7⟩:=own_whole hown hpos
  exact delete_some base g cap spare R gf cb p w h1 h2 h3 h4 h5 h6 hf hn hp he hidx
