/- PkTexts. -/
import Derived.Laws.RangeAny
import Derived.Laws.IdiomStrings
import Derived.Lib.OthersKept
import Derived.Test.YtpeoonnglnchnaaGreatDoorMutRows
import Derived.Shelf.Unicode.DecodeAny
import Derived.Laws.Cover4
import Derived.Ground.Names2Prog
import Derived.PinnedBridge
import Derived.Lib.LaidU8T
import Derived.Lay
import Derived.LaidOnce
import Derived.SevenTiedAt
set_option linter.unusedSectionVars false
set_option linter.unusedSimpArgs false
set_option linter.unusedVariables false
set_option maxHeartbeats 16000000
set_option maxRecDepth 100000
namespace Go.Proofs.YtpeoonnglnchnaaGreatDoor
open RowKit
def runesFrom (s:ByteArray):Nat->Nat->List Int
 | 0,_=>[]
 | b+1,i=>if i<s.size then ((Utf8.decode s i).1:Int)::runesFrom s b (i+(Utf8.decode s i).2) else []
def runesOf (s:ByteArray):List Int:=runesFrom s s.size 0
theorem width_pos (s:ByteArray) (pos:Nat) (h:pos<s.size):1<=(Utf8.decode s pos).2:=by
 by_cases ha:(s[pos]'h).toNat<128
 ·
  rw [decode_ascii s pos h ha]
  exact Nat.le_refl _
 . exact (decode_high s pos h (by omega)).2
theorem runesFrom_end (s:ByteArray) (b:Nat) {pos:Nat} (h:¬ pos<s.size):runesFrom s b pos=[]:=by
 cases b with
 | zero=>rfl
 | succ b=>simp [runesFrom,h]
theorem runesFrom_step (s:ByteArray) (b:Nat) {pos:Nat} (h:pos<s.size):runesFrom s (b+1) pos=((Utf8.decode s pos).1:Int)::runesFrom s b (pos+(Utf8.decode s pos).2):=by simp [runesFrom,h]
theorem runesFrom_len (s:ByteArray):∀ (b pos:Nat),(runesFrom s b pos).length<=b
 | 0,_=>by simp [runesFrom]
 | b+1,pos=>by
  unfold runesFrom
  split
  ·
   have:=runesFrom_len s b (pos+(Utf8.decode s pos).2)
   simp;omega
  . simp
theorem runesOf_len (s:ByteArray):(runesOf s).length<=s.size:=runesFrom_len s _ _
theorem runesFrom_bound (s:ByteArray):∀ (b pos:Nat),∀ r∈runesFrom s b pos,0<=r/\r<=2147483647
 | 0,_=>by simp [runesFrom]
 | b+1,pos=>by
  unfold runesFrom
  split
  ·
   intro r hr
   rcases List.mem_cons.1 hr with rfl | hr
   . have:=decode_le s pos;omega
   . exact runesFrom_bound s b _ r hr
  . simp
theorem runesOf_bound (s:ByteArray):∀ r∈runesOf s,0<=r/\r<=2147483647:=runesFrom_bound s _ _
theorem conv_runes (s:ByteArray):∀ (b i:Nat) (acc:Array Value),(Conv.runesFrom s b i acc).toList=acc.toList++(runesFrom s b i).map (Value.int .i32)
 | 0,_,acc=>by simp [Conv.runesFrom,runesFrom]
 | b+1,i,acc=>by
  unfold Conv.runesFrom runesFrom
  split
  ·
   rename_i h
   have:=conv_runes s b (i+(Utf8.decode s i).2) (acc.push (.int .i32 (Int.ofNat (Utf8.decode s i).1)))
   show (Conv.runesFrom s b (i+(Utf8.decode s i).2) (acc.push (.int .i32 (Int.ofNat (Utf8.decode s i).1)))).toList=_
   rw [this]
   simp
  . simp
theorem runes_row {P:Program} (src dst e:TypeId) (s:ByteArray) (hs:P.underlying src=some .string) (hd:P.underlying dst=some (.slice e)) (he:P.underlying e=some (.int .i32)) (hz:s.size<=70368744177664) :
  ∃ (G:World->Nat) (C:World->Array Value),(∀ W,(convert src dst (.string s)).run P W=.ok (.slice (some ⟨W.heap.size,0,none⟩) (runesOf s).length (G W)) (W.drew.alloc (.cells (C W) e))) /\
   (∀ W,(runesOf s).length<=G W/\G W<=maxLen/\(C W).size=G W)/\∀ (W:World) (i:Nat) (x:Int),(runesOf s)[i]?=some x->(C W)[i]?=some (Value.int .i32 x):=by
 have hl:(Conv.runesFrom s s.size 0 #[]).toList=(runesOf s).map (Value.int .i32):=by rw [conv_runes];simp [runesOf]
 have hn:(Conv.runesFrom s s.size 0 #[]).size=(runesOf s).length:=by rw [<-Array.length_toList,hl,lm0]
 have hb:=runesOf_len s
 refine⟨fun W=>grownCap W (runesOf s).length 0 e,fun W=>Conv.runesFrom s s.size 0 #[]++Array.replicate (grownCap W (runesOf s).length 0 e - (runesOf s).length) (.int .i32 0),fun W=>?_,fun W=>⟨grownCap_ge W _ _ _,grownCap_le_maxLen W _ _ _ (by unfold maxLen;omega),?_⟩,fun W i x hi=>?_⟩
 ·
  have h:=run_runes_of_string (P:=P) W src dst e s hs hd he (by rw [hn];omega)
  rw [hn] at h
  exact h
 ·
  have:=grownCap_ge W (runesOf s).length 0 e
  simp only [Array.size_append,Array.size_replicate,hn]
  omega
 ·
  have hlt:=(gs0.1 hi).1
  rw [Array.getElem?_append_left (by rw [hn];exact hlt),<-Array.getElem?_toList,hl,List.getElem?_map,hi]
  rfl
theorem iter_pos {w:World} {k:Nat} {s:ByteArray} {p:Nat} (h:w.heap[k]?=some (.stringIter s p)):w.iterPos k=p:=by simp [World.iterPos,h]
end Go.Proofs.YtpeoonnglnchnaaGreatDoor
/- The walks of stamp.Right,and of keys and values as texts: part,bad,Key,Val (layers 1,4). -/
namespace Go.Proofs.YtpeoonnglnchnaaGreatDoor.Mut
open Go.Lib (hid)
open RowKit Go.Sort YtpeoonnglnchnaaGreatDoor.Ord
variable [Inhabited Lim]
def stR (s:Stp):Bool:=decide (0<=s.p) && decide (0<=s.l) && decide (0<=s.w) && decide (s.p<=1099511627776) && decide (s.l<=1099511627776) && decide (s.w<=1099511627776) && !(decide (s.p=0) && decide (s.l=0) && decide (s.w=0))
def eqS (x y:Stp):Bool:=(x.p == y.p) && ((x.l == y.l) && (x.w == y.w))
theorem held_S:Tryz.prog.stoodInHeld 39=false:=by kernel_rfl
theorem guard_S:Tryz.prog.eqGuardType Tryz.prog.depth 39=false:=by kernel_rfl
theorem fields_S:Tryz.prog.underlying 39=some (.struct (Tryz.prog.fieldsOf 39)):=by unfold Program.fieldsOf;rw [Tryz.underlying39]
theorem eqS_run (x y:Stp) (w:World):(Op.equalIn 10000 39 (vS x) (vS y)).run Tryz.prog w=.ok (eqS x y) w:=by
 unfold vS
 rw [run_equalIn_agg w 9999 _ _ _ fields_S held_S]
 unfold Program.fieldsOf
 rw [Tryz.underlying39]
 unfold eqS
 go_simp
 by_cases h2:x.p=y.p <;> by_cases h3:x.l=y.l <;> by_cases h4:x.w=y.w <;> simp [h2,h3,h4]
theorem neqS_run (x y:Stp) (w:World):(binOp .neq 39 (vS x) (vS y)).run Tryz.prog w=.ok (.bool (!eqS x y)) w:=by
 unfold vS
 rw [run_neq_struct]
 have:=eqS_run x y w
 unfold vS at this
 rw [this];rfl
theorem guardS_run (op:BinOp) (a b:Operand) (xs ys:Array Value) (w:World):(eqGuard op 39 a b (.agg xs) (.agg ys)).run Tryz.prog w=.ok () w:=run_eqGuard_agg w op _ a b xs ys guard_S
theorem stright_any (s:Stp) (w:World):Calls Tryz.prog 117 #[vS s] w fun e w'=>e=.returned (.bool (stR s))/\Lays w w':=by
 obtain⟨p,l,h⟩:=s
 have hn:=neqS_run ⟨p,l,h⟩ ⟨0,0,0⟩
 have hg:=guardS_run .neq
 unfold vS at hn ⊢
 simp only [] at hn ⊢
 obtain⟨q,hq⟩:∃ q,q=eqS ⟨p,l,h⟩ ⟨0,0,0⟩:=⟨_,rfl⟩
 rw [<-hq] at hn
 have hq2:q=(decide (p=0) && decide (l=0) && decide (h=0)):=by
  rw [hq];unfold eqS
  by_cases h2:p=0 <;> by_cases h3:l=0 <;> by_cases h4:h=0 <;> simp [h2,h3,h4]
 have HQ:=hid hq2
 clear hq hq2
 have hfin:stR ⟨p,l,h⟩=(decide (0<=p) && (decide (0<=l) && (decide (0<=h) && (decide (p<=1099511627776) && (decide (l<=1099511627776) && (decide (h<=1099511627776) && !q)))))):=by
  rw [HQ.out];unfold stR;simp only [Bool.and_assoc]
 rw [hfin]
 clear hfin
 by_cases h1:0<=p
 ·
  by_cases h2:0<=l
  ·
   by_cases h3:0<=h
   ·
    by_cases h4:p<=1099511627776
    ·
     by_cases h5:l<=1099511627776
     ·
      by_cases h6:h<=1099511627776
      all_goals
       simp only [h1,h2,h3,h4,h5,h6,decide_true,decide_false,Bool.true_and,Bool.false_and]
       go_enter Tryz.func117,Tryz.ntmps117
       go_wp2_with fail
       go_ret
       exact⟨rfl,(Lays.refl _).alloc _⟩
     ·
      simp only [h1,h2,h3,h4,h5,decide_true,decide_false,Bool.true_and,Bool.false_and]
      go_enter Tryz.func117,Tryz.ntmps117
      go_wp2_with fail
      go_ret
      exact⟨rfl,(Lays.refl _).alloc _⟩
    ·
     simp only [h1,h2,h3,h4,decide_true,decide_false,Bool.true_and,Bool.false_and]
     go_enter Tryz.func117,Tryz.ntmps117
     go_wp2_with fail
     go_ret
     exact⟨rfl,(Lays.refl _).alloc _⟩
   ·
    simp only [h1,h2,h3,decide_true,decide_false,Bool.true_and,Bool.false_and]
    go_enter Tryz.func117,Tryz.ntmps117
    go_wp2_with fail
    go_ret
    exact⟨rfl,(Lays.refl _).alloc _⟩
  ·
   simp only [h1,h2,decide_true,decide_false,Bool.true_and,Bool.false_and]
   go_enter Tryz.func117,Tryz.ntmps117
   go_wp2_with fail
   go_ret
   exact⟨rfl,(Lays.refl _).alloc _⟩
 ·
  simp only [h1,decide_true,decide_false,Bool.true_and,Bool.false_and]
  go_enter Tryz.func117,Tryz.ntmps117
  go_wp2_with fail
  go_ret
  exact⟨rfl,(Lays.refl _).alloc _⟩
end Go.Proofs.YtpeoonnglnchnaaGreatDoor.Mut
/- The walk of runes.part (layer 1). PRINTED by wip/genmutpart.py. -/
namespace Go.Proofs.YtpeoonnglnchnaaGreatDoor.Mut
open Go.Lib (hid)
open RowKit Go.Sort YtpeoonnglnchnaaGreatDoor.Ord
variable [Inhabited Lim]
def partF (r:Int) (first:Bool):Bool:=(decide (97<=r) && decide (r<=122)) || ((decide (65<=r) && decide (r<=90)) || (decide (128<=r) || (!first && ((decide (48<=r) && decide (r<=57)) || (r == 45 || r == 95)))))
theorem part_any (r:Int) (first:Bool) (w:World):Calls Tryz.prog 160 #[.int .i32 r,.bool first] w fun e w'=>e=.returned (.bool (partF r first))/\w=w':=by
 unfold partF
 have hc:r<=44\/r=45\/(46<=r/\r<=47)\/(48<=r/\r<=57)\/(58<=r/\r<=64)\/(65<=r/\r<=90)\/(91<=r/\r<=94)\/r=95\/r=96\/(97<=r/\r<=122)\/(123<=r/\r<=127)\/128<=r:=by omega
 rcases hc with hc | hc | hc | hc | hc | hc | hc | hc | hc | hc | hc | hc
 ·
  have e0:decide (97<=r)=false:=df0 (by omega)
  have e1:decide (r<=122)=true:=dt0 (by omega)
  have e2:decide (65<=r)=false:=df0 (by omega)
  have e3:decide (r<=90)=true:=dt0 (by omega)
  have e4:decide (128<=r)=false:=df0 (by omega)
  have e5:decide (48<=r)=false:=df0 (by omega)
  have e6:decide (r<=57)=true:=dt0 (by omega)
  have q45:(r == 45)=false:=by simp;omega
  have q95:(r == 95)=false:=by simp;omega
  clear hc
  simp only [e0,e1,e2,e3,e4,e5,e6,q45,q95]
  cases first
  all_goals
   go_enter Tryz.func160,Tryz.ntmps160
   go_wp2_with fail
   go_ret
   exact⟨rfl,rfl⟩
 ·
  subst hc
  skip
  cases first
  all_goals
   go_enter Tryz.func160,Tryz.ntmps160
   go_wp2_with fail
   go_ret
   exact⟨rfl,rfl⟩
 ·
  have e0:decide (97<=r)=false:=df0 (by omega)
  have e1:decide (r<=122)=true:=dt0 (by omega)
  have e2:decide (65<=r)=false:=df0 (by omega)
  have e3:decide (r<=90)=true:=dt0 (by omega)
  have e4:decide (128<=r)=false:=df0 (by omega)
  have e5:decide (48<=r)=false:=df0 (by omega)
  have e6:decide (r<=57)=true:=dt0 (by omega)
  have q45:(r == 45)=false:=by simp;omega
  have q95:(r == 95)=false:=by simp;omega
  clear hc
  simp only [e0,e1,e2,e3,e4,e5,e6,q45,q95]
  cases first
  all_goals
   go_enter Tryz.func160,Tryz.ntmps160
   go_wp2_with fail
   go_ret
   exact⟨rfl,rfl⟩
 ·
  have e0:decide (97<=r)=false:=df0 (by omega)
  have e1:decide (r<=122)=true:=dt0 (by omega)
  have e2:decide (65<=r)=false:=df0 (by omega)
  have e3:decide (r<=90)=true:=dt0 (by omega)
  have e4:decide (128<=r)=false:=df0 (by omega)
  have e5:decide (48<=r)=true:=dt0 (by omega)
  have e6:decide (r<=57)=true:=dt0 (by omega)
  have q45:(r == 45)=false:=by simp;omega
  have q95:(r == 95)=false:=by simp;omega
  clear hc
  simp only [e0,e1,e2,e3,e4,e5,e6,q45,q95]
  cases first
  all_goals
   go_enter Tryz.func160,Tryz.ntmps160
   go_wp2_with fail
   go_ret
   exact⟨rfl,rfl⟩
 ·
  have e0:decide (97<=r)=false:=df0 (by omega)
  have e1:decide (r<=122)=true:=dt0 (by omega)
  have e2:decide (65<=r)=false:=df0 (by omega)
  have e3:decide (r<=90)=true:=dt0 (by omega)
  have e4:decide (128<=r)=false:=df0 (by omega)
  have e5:decide (48<=r)=true:=dt0 (by omega)
  have e6:decide (r<=57)=false:=df0 (by omega)
  have q45:(r == 45)=false:=by simp;omega
  have q95:(r == 95)=false:=by simp;omega
  clear hc
  simp only [e0,e1,e2,e3,e4,e5,e6,q45,q95]
  cases first
  all_goals
   go_enter Tryz.func160,Tryz.ntmps160
   go_wp2_with fail
   go_ret
   exact⟨rfl,rfl⟩
 ·
  have e0:decide (97<=r)=false:=df0 (by omega)
  have e1:decide (r<=122)=true:=dt0 (by omega)
  have e2:decide (65<=r)=true:=dt0 (by omega)
  have e3:decide (r<=90)=true:=dt0 (by omega)
  have e4:decide (128<=r)=false:=df0 (by omega)
  have e5:decide (48<=r)=true:=dt0 (by omega)
  have e6:decide (r<=57)=false:=df0 (by omega)
  have q45:(r == 45)=false:=by simp;omega
  have q95:(r == 95)=false:=by simp;omega
  clear hc
  simp only [e0,e1,e2,e3,e4,e5,e6,q45,q95]
  cases first
  all_goals
   go_enter Tryz.func160,Tryz.ntmps160
   go_wp2_with fail
   go_ret
   exact⟨rfl,rfl⟩
 ·
  have e0:decide (97<=r)=false:=df0 (by omega)
  have e1:decide (r<=122)=true:=dt0 (by omega)
  have e2:decide (65<=r)=true:=dt0 (by omega)
  have e3:decide (r<=90)=false:=df0 (by omega)
  have e4:decide (128<=r)=false:=df0 (by omega)
  have e5:decide (48<=r)=true:=dt0 (by omega)
  have e6:decide (r<=57)=false:=df0 (by omega)
  have q45:(r == 45)=false:=by simp;omega
  have q95:(r == 95)=false:=by simp;omega
  clear hc
  simp only [e0,e1,e2,e3,e4,e5,e6,q45,q95]
  cases first
  all_goals
   go_enter Tryz.func160,Tryz.ntmps160
   go_wp2_with fail
   go_ret
   exact⟨rfl,rfl⟩
 ·
  subst hc
  skip
  cases first
  all_goals
   go_enter Tryz.func160,Tryz.ntmps160
   go_wp2_with fail
   go_ret
   exact⟨rfl,rfl⟩
 ·
  subst hc
  skip
  cases first
  all_goals
   go_enter Tryz.func160,Tryz.ntmps160
   go_wp2_with fail
   go_ret
   exact⟨rfl,rfl⟩
 ·
  have e0:decide (97<=r)=true:=dt0 (by omega)
  have e1:decide (r<=122)=true:=dt0 (by omega)
  have e2:decide (65<=r)=true:=dt0 (by omega)
  have e3:decide (r<=90)=false:=df0 (by omega)
  have e4:decide (128<=r)=false:=df0 (by omega)
  have e5:decide (48<=r)=true:=dt0 (by omega)
  have e6:decide (r<=57)=false:=df0 (by omega)
  have q45:(r == 45)=false:=by simp;omega
  have q95:(r == 95)=false:=by simp;omega
  clear hc
  simp only [e0,e1,e2,e3,e4,e5,e6,q45,q95]
  cases first
  all_goals
   go_enter Tryz.func160,Tryz.ntmps160
   go_wp2_with fail
   go_ret
   exact⟨rfl,rfl⟩
 ·
  have e0:decide (97<=r)=true:=dt0 (by omega)
  have e1:decide (r<=122)=false:=df0 (by omega)
  have e2:decide (65<=r)=true:=dt0 (by omega)
  have e3:decide (r<=90)=false:=df0 (by omega)
  have e4:decide (128<=r)=false:=df0 (by omega)
  have e5:decide (48<=r)=true:=dt0 (by omega)
  have e6:decide (r<=57)=false:=df0 (by omega)
  have q45:(r == 45)=false:=by simp;omega
  have q95:(r == 95)=false:=by simp;omega
  clear hc
  simp only [e0,e1,e2,e3,e4,e5,e6,q45,q95]
  cases first
  all_goals
   go_enter Tryz.func160,Tryz.ntmps160
   go_wp2_with fail
   go_ret
   exact⟨rfl,rfl⟩
 ·
  have e0:decide (97<=r)=true:=dt0 (by omega)
  have e1:decide (r<=122)=false:=df0 (by omega)
  have e2:decide (65<=r)=true:=dt0 (by omega)
  have e3:decide (r<=90)=false:=df0 (by omega)
  have e4:decide (128<=r)=true:=dt0 (by omega)
  have e5:decide (48<=r)=true:=dt0 (by omega)
  have e6:decide (r<=57)=false:=df0 (by omega)
  have q45:(r == 45)=false:=by simp;omega
  have q95:(r == 95)=false:=by simp;omega
  clear hc
  simp only [e0,e1,e2,e3,e4,e5,e6,q45,q95]
  cases first
  all_goals
   go_enter Tryz.func160,Tryz.ntmps160
   go_wp2_with fail
   go_ret
   exact⟨rfl,rfl⟩
end Go.Proofs.YtpeoonnglnchnaaGreatDoor.Mut
/- utf8.DecodeRuneInString at every string,by the library's contract (its laying: lay-plain.mjs's print,turned). -/
namespace Go.Proofs.YtpeoonnglnchnaaGreatDoor.Mut
open Go.Lib (hid)
open RowKit Go.Shelf
variable [Inhabited Lim]
def layDec_ren:Go.Shelf.Ren:=⟨fun | 197=>177 | 260=>181 | n=>n,fun | 9=>9 | 21=>21 | 3=>3 | 4=>4 | 5=>5 | 105=>182 | 119=>185 | 0=>0 | 46=>111 | 139=>188 | 138=>187 | n=>n,fun | 3=>0 | 4=>1 | n=>n⟩
theorem layDec:Go.Proofs.Lays.n197 Tryz.prog layDec_ren:={
 mixed:=by kernel_rfl
 f197:=Tryz.func177.trans (congrArg some (by kernel_rfl))
 f260:=Tryz.func181.trans (congrArg some (by kernel_rfl))
 t0:=Tryz.underlying0
 a0:=Tryz.isAgg0
 z0:=Tryz.sizeOf0
 v0:=Tryz.zeroValue0
 t3:=Tryz.underlying3
 a3:=Tryz.isAgg3
 z3:=Tryz.sizeOf3
 v3:=Tryz.zeroValue3
 t4:=Tryz.underlying4
 a4:=Tryz.isAgg4
 z4:=Tryz.sizeOf4
 v4:=Tryz.zeroValue4
 t5:=Tryz.underlying5
 a5:=Tryz.isAgg5
 z5:=Tryz.sizeOf5
 v5:=Tryz.zeroValue5
 t9:=Tryz.underlying9
 a9:=Tryz.isAgg9
 z9:=Tryz.sizeOf9
 v9:=Tryz.zeroValue9
 t21:=Tryz.underlying21
 a21:=Tryz.isAgg21
 z21:=Tryz.sizeOf21
 v21:=Tryz.zeroValue21
 t46:=Tryz.underlying111
 a46:=Tryz.isAgg111
 z46:=Tryz.sizeOf111
 v46:=Tryz.zeroValue111
 t105:=Tryz.underlying182
 a105:=Tryz.isAgg182
 z105:=Tryz.sizeOf182
 v105:=Tryz.zeroValue182
 t119:=Tryz.underlying185
 a119:=Tryz.isAgg185
 z119:=Tryz.sizeOf185
 t138:=Tryz.underlying187
 a138:=Tryz.isAgg187
 z138:=Tryz.sizeOf187
 v138:=Tryz.zeroValue187
 t139:=Tryz.underlying188
 a139:=Tryz.isAgg188
 z139:=Tryz.sizeOf188
 v139:=Tryz.zeroValue188
 g3:=by kernel_rfl
 g4:=by kernel_rfl }
def Tabs (w:World):Prop:=Lib.Utf8Tabs 0 1 w
theorem Tabs.below {w w':World} (h:Tabs w) (hb:Below w.heap.size w w'):Tabs w':=Utf8Tabs_below h hb
theorem decode_any (s:ByteArray) (w:World) (hT:Tabs w):Calls Tryz.prog 177 #[.string s] w fun e w'=>e=.returned (.tuple #[.int .i32 (Lib.decodeGo s).1,.int .i64 (Lib.decodeGo s).2])/\Below w.heap.size w w':=
 Any.utf8_DecodeRuneInString layDec s w hT
end Go.Proofs.YtpeoonnglnchnaaGreatDoor.Mut
namespace Go.Proofs.YtpeoonnglnchnaaGreatDoor.Kit
open Go.ChangeShapes Go.WideShapes Go.ChangeAt RowKit Go.Deep
theorem law_lifted_laid {H:Type} {enc:TypeId × Value->H} {C:Checked} {os:Os} {f:FuncId} {fn:Func} {s:ChangeSpec} {tb:TypeId} {laid:List (String × DataW Unit)}
  (own:ownKnob C.prog.godebug=none) (started:os.Started) (noInit:C.prog.inits.idxOf? f=none) (hfn:C.prog.funcs[f]?=some fn) (hl:laidOutB C.prog=true)
  (hp0:(fn.params.toList.all fun t=>C.prog.readableRec t && decide (t<C.prog.types.size))=true) (hv:s.vars=[]) (hres:fn.resultTypes=#[tb]) (ht:C.prog.underlying tb=some .bool)
  (hspec:∀ ds:List (DataW H),ds.length=fn.params.size->s.fn H ds={ results:=[.lit (.bool true)],args:=ds })
  (witness:∃ (w:World) (tape:Tape) (i:Input),w.os=os/\(w.forCall tape i).Shaped C.prog/\i.vars=[]/\Input.okWide C.prog (w.forCall tape i) .any w.heap.size f i /\
   ((s.pre enc C.prog fn [] false (w.forCall tape i).memory i.args/\laidMetH C.prog laid (w.forCall tape i).memory)/\sizedMet enc C.prog fn (OpenSpec.ofChange s) false (w.forCall tape i).memory i.args)/\({}:Assume).holds C.prog (lone (Frame.enter C.prog f i.args .normal) [] (w.forCall tape i)))
  (walk:∀ (W:World) (args:Array Value),Args enc C.prog W fn.params.toList args.toList->laidMetH C.prog laid W ->
   Calls C.prog f args W fun e W'=>e=.returned (.bool true)/\Below W.heap.size W W') :
  ReturnsInHanded {} C os f .any (fun w args=>(s.pre enc C.prog fn [] false w args/\laidMetH C.prog laid w)/\sizedMet enc C.prog fn (OpenSpec.ofChange s) false w args) (s.post enc C.prog fn false true false false):=by
 have hp:∀ t∈fn.params.toList,C.prog.readableRec t=true/\t<C.prog.types.size:=fun t h=>by
  have:=List.all_eq_true.1 hp0 t h
  simpa using this
 refine returnsInHanded_of_change_and (X:=fun w _=>laidMetH C.prog laid w) (fun _ _ _ hh h=>h.of_heap hh) own started noInit hfn witness ?_
 intro W base args ds gs before hval hW _ _ hL _
 have hW':=hW
 obtain⟨p,q,hA,hV,rfl,hfz,hnd⟩:=hW'
 obtain⟨hargs,hlen⟩:=args_of (fun j t v h1 h2=>⟨_,_,hval j t v (by simpa using h1) (by simpa using h2)⟩) hA
 refine (walk W args hargs hL).mono fun e W' ⟨he,hb⟩=>?_
 subst he
 exact⟨_,rfl,law_post hl hp hv hres ht (hspec ds (by simpa using hlen)) hW hb⟩
theorem u8types:U8Types Tryz.prog Mut.layDec_ren:=
 haveI:Inhabited Mut.Lim:=⟨⟨0⟩⟩
 ⟨Mut.layDec.t5,Mut.layDec.t119,Mut.layDec.t138,Mut.layDec.t139⟩
theorem u8extra:U8Extra Tryz.prog Mut.layDec_ren:=⟨by kernel_rfl,by kernel_rfl,by kernel_rfl,by kernel_rfl,by kernel_rfl,by kernel_rfl,by kernel_rfl⟩
theorem accept_eq:@Rows.laid_unicode_utf8_acceptRanges Unit=Lib.acceptData:=by kernel_rfl
theorem tabs_of_laid {W:World} (h:laidMetH Tryz.prog [("unicode/utf8.acceptRanges",Rows.laid_unicode_utf8_acceptRanges),("unicode/utf8.first",Rows.laid_unicode_utf8_first)] W):Mut.Tabs W:=by
 rw [MakeChecks.laidMetH_plain _ _ _ (by kernel_rfl)] at h
 have h1:=Lib.laidMet.reads h (.head _)
 have h2:=Lib.laidMet.reads h (.tail _ (.head _))
 rw [accept_eq] at h1
 exact utf8Tabs_of_readsT u8types u8extra (Pinned.utf8First_eq ▸ h2) h1
end Go.Proofs.YtpeoonnglnchnaaGreatDoor.Kit
namespace Go.Proofs.YtpeoonnglnchnaaGreatDoor
open Go.ChangeShapes Go.WideShapes Go.ChangeAt RowKit Go.Deep Kit
theorem choose_lt' {α:Type} [Inhabited α] {n:Nat} {p:Nat->α->Prop} (h:∀ i,i<n->∃ x,p i x):∃ f:Nat->α,∀ i,i<n->p i (f i):=by
 refine⟨fun i=>if hi:i<n then Classical.choose (h i hi) else default,fun i hi=>?_⟩
 simp only [hi,dif_pos]
 exact Classical.choose_spec (h i hi)
theorem arg_lst {H:Type} {enc:TypeId × Value->H} {P:Program} {W:World} {α:Type} [Inhabited α] {t e:TypeId} {sz:Nat} {en:α->List Value} {good:α->Prop} {v:Value} (ht:P.underlying t=some (.slice e)) (hC:P.cellsOf e=sz) (hsz:0<sz)
  (hrd:∀ cs,Rd enc P W e cs->∃ x,cs=en x/\good x) (h:Arg enc P W t v):∃ ao cap l,v=.slice ao (List.length l) cap/\Lst sz en W v l/\(ao=none->cap=0)/\∀ x∈l,good x:=by
 rcases arg_slice ht h with rfl | ⟨a,len,cap,rfl,hl,hc,hel⟩
 . exact⟨none,0,[],rfl,Lst.nil _,fun _=>rfl,by simp⟩
 rcases cells_slice (by rw [hC];omega) hl hc (Or.inr ⟨a,rfl,hel⟩) with h0 | ⟨b,off,F,h1,h2,h3,h4,h5,h6⟩
 ·
  subst h0
  exact⟨some a,cap,[],rfl,⟨some a,cap,rfl,by simp,hc,Or.inl rfl⟩,(fun h=>by cases h),by simp⟩
 ·
  cases h1
  rw [hC] at h6
  obtain⟨q,hq⟩:=choose_lt' (α:=α) (n:=len) (p:=fun i x=>F i=en x/\good x) (fun i hi=>hrd _ (h6 i (by omega)).2.1)
  have hn:((List.range len).map q).length=len:=by simp
  refine⟨_,cap,(List.range len).map q,by rw [hn],⟨_,cap,by rw [hn],by rw [hn];exact hl,hc,Or.inr ⟨b,off,rfl,h5,fun i x hi j hj=>?_⟩⟩,(fun h=>by cases h),fun x hx=>?_⟩
  ·
   have hlt:i<len:=by have:=(gs0.1 hi).1;simpa using this
   have hx:q i=x:=by simpa [hlt] using hi
   rw [(h6 i (by omega)).2.2 j hj,(hq i hlt).1,hx]
  ·
   obtain⟨i,hi,rfl⟩:=List.mem_map.1 hx
   exact (hq i (List.mem_range.1 hi)).2
