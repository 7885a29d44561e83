/- The bytes of a page, plain (layer 15). · mem.Compare, and slices.SortFunc by it, at rows of mutations (printed by gentabsort.py out of MutRows, MutSort, ConMore). · slices.Concat of two rows of mutations, the sort by mem.Compare at any row, table.rows (printed by gentabrows.py; the walk of Concat out of ConMore). -/
import Derived.Test.YtpeoonnglnchnaaGreatDoorTabShared
import Derived.Test.YtpeoonnglnchnaaGreatDoorPkConKnown
import Derived.Test.YtpeoonnglnchnaaGreatDoorRefKey
import Derived.Test.YtpeoonnglnchnaaGreatDoorConMore
import Derived.Shelf.SlSortCmp.NoneTotal
set_option linter.unusedSimpArgs false
set_option linter.unusedVariables false
set_option maxHeartbeats 16000000
set_option maxRecDepth 100000
namespace Go.Proofs.YtpeoonnglnchnaaGreatDoor.Tab
open Go.RowKit Go.Proofs.YtpeoonnglnchnaaGreatDoor.Spare Go.Proofs.YtpeoonnglnchnaaGreatDoor.Mut Go.Proofs.YtpeoonnglnchnaaGreatDoor.Mrk
set_option linter.unusedSectionVars false
theorem sharedR_comm:∀ xs ys:List Int,sharedR xs ys=sharedR ys xs
 | [],[]=>rfl
 | [],_::_=>rfl
 | _::_,[]=>rfl
 | x::xs,y::ys=>by
  unfold sharedR
  by_cases h:x=y
  · subst h;rw [if_pos rfl,if_pos rfl,sharedR_comm xs ys]
  · rw [if_neg h,if_neg (fun e=>h e.symm)]
theorem sharedF_comm (a b:ByteArray):sharedF a b=sharedF b a:=sharedR_comm _ _
theorem sharedF_le2 (a:ByteArray) {b:ByteArray} (h:Well b):sharedF a b≤b.size:=by rw [sharedF_comm];exact sharedF_le a h
theorem well_empty:Well ByteArray.empty:=trivial
theorem bad_not_fine {s:ByteArray} {pos:Nat} (hp:pos<s.size) (h:badF s pos (Utf8.decode s pos).1=false):Fine s pos:=by
 intro e
 have hsz:(s.extract pos s.size).size=s.size - pos:=by rw [ByteArray.size_extract];omega
 have hg:Lib.decodeGo (s.extract pos s.size)=Utf8.decode s pos:=by
  unfold Lib.decodeGo
  rw [if_neg (by omega),Lib.tail_decode,Nat.add_zero]
 unfold badF at h
 rw [hg,e.1,e.2] at h
 simp at h
theorem well_key (s:ByteArray):∀ (f pos:Nat),keyFrom s f pos=true→wellFrom s f pos
 | 0,_,_=>trivial
 | f+1,pos,h=>fun hp=>by
  unfold keyFrom at h
  rw [if_pos hp] at h
  by_cases hb:badF s pos (Utf8.decode s pos).1=true
  · rw [hb] at h;simp at h
  ·
   have hb2:=Bool.eq_false_iff.2 hb
   refine⟨bad_not_fine hp hb2,well_key s f _ ?_⟩
   split at h
   · cases h
   · exact h
theorem keyF_well {s:ByteArray} (h:keyF s=true):Well s:=by
 unfold keyF at h
 simp only [Bool.and_eq_true,decide_eq_true_eq] at h
 exact well_key s s.size 0 h.2
def restM (m:Mu):List Nat:=restL m.table.toNat m.kind.toNat m.expiry.toNat m.at_.p.toNat m.at_.l.toNat m.at_.w.toNat m.fin m.val m.over
def rowB (last:ByteArray) (m:Mu):List Nat:=putF (sharedF last m.key)++(textF (m.key.extract (sharedF last m.key) m.key.size)++restM m)
def pageL:ByteArray→List Mu→List Nat
 | _,[]=>[]
 | last,m::l=>rowB last m++pageL m.key l
def pageB (l:List Mu):List Nat:=putF l.length++pageL ByteArray.empty l
variable [Inhabited Lim]
theorem rest_ro (x:Ro) (wb w:World) (v:Value) (bs:List Nat) (hx:Over wb x) (hn:NumM x.1) (hbw:Below wb.heap.size wb w) (hv:OwnB w wb.heap.size v bs) (hbs:bs.length≤700000) :
  Calls Tryz.prog 82 #[v,vM x] w (OnPost wb.heap.size v (bs++restM x.1) w):=by
 obtain⟨⟨tb,kd,key,fin,val,ex,⟨p,l,h⟩,over⟩,ov⟩:=x
 obtain⟨⟨t0,t1⟩,⟨k0,k1⟩,⟨e0,e1⟩,⟨p0,l0,w0,p1,l1,w1⟩,s1,s2,s3,s4,s5⟩:=hn
 simp only [] at t0 t1 k0 k1 e0 e1 p0 l0 w0 p1 l1 w1 s1 s2 s3 s4 s5
 obtain⟨tb,rfl⟩:=Int.eq_ofNat_of_zero_le t0
 obtain⟨kd,rfl⟩:=Int.eq_ofNat_of_zero_le k0
 obtain⟨ex,rfl⟩:=Int.eq_ofNat_of_zero_le e0
 obtain⟨p,rfl⟩:=Int.eq_ofNat_of_zero_le p0
 obtain⟨l,rfl⟩:=Int.eq_ofNat_of_zero_le l0
 obtain⟨h,rfl⟩:=Int.eq_ofNat_of_zero_le w0
 exact rest_onto tb kd ex p l h key fin val over ov wb v bs w (by omega) (by omega) (by omega) (by omega) (by omega) (by omega) s2 s3 s4 s5 hx.lst hbw hv hbs
end Go.Proofs.YtpeoonnglnchnaaGreatDoor.Tab

namespace Go.Proofs.YtpeoonnglnchnaaGreatDoor.Mut
open Go.Lib (hid)
open Go.RowKit Go.Shelf Go.Sort Go.Proofs.YtpeoonnglnchnaaGreatDoor.Ord
set_option linter.unusedSectionVars false
variable [Inhabited Lim]
theorem memcompare_any (x y:Ro) (w:World) (hx:Over w x) (hy:Over w y) (h1:x.1.over.length≤1000000) (h2:y.1.over.length≤1000000) :
  Calls Tryz.prog 80 #[vM x,vM y] w fun e w'=>e=.returned (.int .i64 (sibC x.1 y.1))∧Lays w w':=by
 have hc:=fun (z:World) (h:Lays w z)=>compare_any x y z (hx.below h.below) (hy.below h.below) h1 h2
 have hsib:sibC x.1 y.1=orL [cmpS x.1.key y.1.key,muC x.1 y.1]:=rfl
 rw [hsib]
 obtain⟨c,hce⟩:∃ c,c=muC x.1 y.1:=⟨_,rfl⟩
 rw [←hce] at hc ⊢
 obtain⟨ao1,ac1,e1,-,-⟩:=Over.form hx
 obtain⟨ao2,ac2,e2,-,-⟩:=Over.form hy
 obtain⟨⟨at1,ak1,akey1,afin1,aval1,aex1,⟨ap1,al1,aw1⟩,aov1⟩,av1⟩:=x
 obtain⟨⟨at2,ak2,akey2,afin2,aval2,aex2,⟨ap2,al2,aw2⟩,aov2⟩,av2⟩:=y
 simp only [] at e1 e2 hsib
 subst e1 e2
 unfold vM at hc ⊢
 simp only [] at hc ⊢
 generalize aov1.length=n1 at *
 generalize aov2.length=n2 at *
 have HC:=hid hc
 clear hc hx hy h1 h2 hce hsib
 go_enter Tryz.func80,Tryz.ntmps80
 go_wp2_with fail
 refine wp_region_lays_tail 8 (by kernel_rfl) (by kernel_rfl) ?_
 simp only [List.take_succ_cons,List.take_zero,List.drop_succ_cons,List.drop_zero]
 repeat (go_big_quiet_step (first
  | (go_at_call 113;exact laid_same (cmpS_any _ _ _))
  | (go_at_call 108;exact laid (HC.out _ ((((Lays.refl _).alloc _).alloc _).trans (GW.lays _))))))
 refine wpQuiet_nil ?_
 rintro _ ⟨y,rfl⟩
 go_wp2_with fail
 refine (or_any y.at.heap.size 0 2 [cmpS akey1 akey2,c] _ (ints_new _ _ [cmpS akey1 akey2,c]) (by simp)).mono ?_
 rintro e w2 ⟨rfl,rfl⟩
 go_wp2_with fail
 go_ret
 exact⟨rfl,(((Lays.refl _).alloc _).alloc _).trans (y.lays.alloc _)⟩
theorem subS (w:World) (row:Option Nat):SWO (ltOf fun x y:SubR w row=>sibC x.1.1 y.1.1) where
 irrefl x:=by
  show decide (sibC x.1.1 x.1.1<0)=false
  rw [sibO.self];rfl
 trans x y z h1 h2:=by
  unfold ltOf at *
  simp only [decide_eq_true_eq] at *
  exact sibO.trans _ _ _ h1 h2
 ntrans x y z h1 h2:=by
  unfold ltOf at *
  simp only [decide_eq_false_iff_not] at *
  have h1':=sibO.le_of.1 h1
  have h2':=sibO.le_of.1 h2
  exact sibO.le_of.2 (sibO.le_le h2' h1')
def SortM (base:Nat) (w:World) (v:Value) (R:List Ro) (e:Ending) (w':World):Prop:=
 e=.returned (.tuple #[])∧∃ R':List Ro,R'.Perm R∧R'.Pairwise (fun a b=>sibC a.1 b.1≤0)∧w'.ownsRow base 42 10 v R'.length (R'.flatMap enM)∧w.grownBy w' v.ownBlock
theorem memcompare_enters:∀ args w,(callFunc 80 args).run Tryz.prog w=.ok (.enter 80 args) w:=enters_of Tryz.func80 (by kernel_rfl) rfl
theorem memsort_some (base g cap:Nat) (R:List Ro) (w:World) (hown:w.ownsRow base 42 10 (.slice (some ⟨g,0,none⟩) R.length cap) R.length (R.flatMap enM)) (hoff:∀ x∈R,Okay w (some g) x) (hn:R.length≤1000000) :
  Calls Tryz.prog 79 #[.slice (some ⟨g,0,none⟩) R.length cap,.func (.func 80) #[] #[]] w (SortM base w (.slice (some ⟨g,0,none⟩) R.length cap) R):=by
 obtain⟨L,hL⟩:∃ L:List (SubR w (some g)),L.map (·.1)=R:=⟨subs R hoff,subs_val R hoff⟩
 subst hL
 have hlen:(L.map (·.1)).length=L.length:=by simp
 rw [hlen] at hown hn ⊢
 rw [←map_flat] at hown
 have hk:∀ x:SubR w (some g),(enM x.1).length=10:=fun _=>rfl
 have h1:∀ x:SubR w (some g),∀ v∈enM x.1,v.oneCell'=true:=fun x v hv=>by
  obtain⟨ao,c,e,-,-⟩:=x.2.1.over.form
  unfold enM at hv
  rw [e] at hv
  simp at hv
  rcases hv with rfl | rfl | rfl | rfl | rfl | rfl | rfl | rfl | rfl | rfl <;> rfl
 obtain⟨-,-,cur,h4,-,-,-,-⟩:=owned_parts hown
 have hlt:g<w.heap.size:=(Array.getElem?_eq_some_iff.1 h4).1
 have hC:CmpLays Tryz.prog 80 #[] (fun x:SubR w (some g)=>enM x.1) 10 (fun x y=>sibC x.1.1 y.1.1) g 0 L.toArray.size w:=fun m os dk hdk x y=>by
  have hg:=(owned_put (cap:=cap) hk hown dk (by simpa using hdk) m os).2
  have:=memcompare_any x.1 y.1 (sortWorldK (fun x:SubR w (some g)=>enM x.1) 10 w g 0 m dk os) (x.2.1 _ hg) (y.2.1 _ hg) x.2.2 y.2.2
  rw [vM_eq,vM_eq] at this
  exact this
 have hcon:=AnyQ.slices_SortFunc laySort 10 (fun w=>Tryz.isAgg42 w) (fun w=>Tryz.sizeOf42 w) (fun x:SubR w (some g)=>enM x.1) hk h1 (fun x y=>sibC x.1.1 y.1.1) (subS w (some g)) 80 #[] g 0 cap L.toArray w memcompare_enters hC (holds_owned hk hown) hlt (by simp;omega)
 have e0:L.toArray.size=L.length:=by simp
 rw [e0] at hcon
 refine hcon.mono ?_
 rintro e w' ⟨rfl,d',n,os,hp,hs,rfl⟩
 have hds:d'.size=L.length:=by have:=hp.1;simpa using this
 have hq:=owned_put (cap:=cap) hk hown d' hds n os
 have hdl:d'.toList.length=L.length:=by simpa using hds
 refine⟨rfl,d'.toList.map (·.1),?_,?_,?_,hq.2⟩
 ·
  have h:=hp.2.2
  have x1:(d'.extract 0 L.length).toList=d'.toList:=by rw [←hds];simp
  have x2:(L.toArray.extract 0 L.length).toList=L:=by simp
  rw [x1,x2] at h
  exact h.map _
 ·
  rw [List.pairwise_map,List.pairwise_iff_getElem]
  intro i j hi hj hij
  have h:=hs i j (Nat.zero_le _) hij (by simpa [hds] using hj)
  rw [getElem!_pos d' i (by simpa using hi),getElem!_pos d' j (by simpa using hj)] at h
  unfold ltOf at h
  simp only [decide_eq_false_iff_not] at h
  exact sibO.le_of.1 h
 ·
  rw [←map_flat]
  have:=hq.1
  rw [show (d'.toList.map (·.1)).length=L.length by simp [hds]]
  exact this
end Go.Proofs.YtpeoonnglnchnaaGreatDoor.Mut

namespace Go.Proofs.YtpeoonnglnchnaaGreatDoor.Mut
open Go.Lib (hid)
open Go.RowKit Go.Shelf Go.Sort Go.Proofs.YtpeoonnglnchnaaGreatDoor.Ord
set_option linter.unusedSectionVars false
variable [Inhabited Lim]
def cat2 (A B:List Ro):Nat→List Ro
 | 0=>[]
 | 1=>A
 | _=>A++B
structure Cat2 (g:Nat) (a b:Value) (A B:List Ro) (w:World):Prop where
 lt:g<w.heap.size
 c0:w.cell? ⟨g,0,none⟩=some a
 c1:w.cell? ⟨g,1,none⟩=some b
 r0:MRow w a A
 r1:MRow w b B
theorem Cat2.below {g:Nat} {a b:Value} {A B:List Ro} {w w':World} (h:Cat2 g a b A B w) (hb:Below w.heap.size w w'):Cat2 g a b A B w':=
 ⟨Nat.lt_of_lt_of_le h.lt hb.size,(hb.cell (p:=⟨g,0,none⟩) h.lt).trans h.c0,(hb.cell (p:=⟨g,1,none⟩) h.lt).trans h.c1,h.r0.below hb,h.r1.below hb⟩
theorem Cat2.get {g:Nat} {a b:Value} {A B:List Ro} {w:World} (h:Cat2 g a b A B w) {k:Nat} (hk:k<2):∃ X ao cap,w.cell? ⟨g,k,none⟩=some (.slice ao X.length cap)∧MRow w (.slice ao X.length cap) X∧cat2 A B (k+1)=cat2 A B k++X:=by
 obtain⟨ao0,c0,e0,-,-⟩:=h.r0.form
 obtain⟨ao1,c1,e1,-,-⟩:=h.r1.form
 rcases k with _ | _ | k
 · exact⟨A,ao0,c0,by rw [h.c0,e0],e0 ▸ h.r0,rfl⟩
 · exact⟨B,ao1,c1,by rw [←e1];exact h.c1,e1 ▸ h.r1,rfl⟩
 · omega
theorem cat2_len {A B:List Ro} (k:Nat):(cat2 A B k).length≤(A++B).length:=by
 unfold cat2
 split <;> simp
theorem concat2_any (g:Nat) (a b:Value) (A B:List Ro) (w:World) (h:Cat2 g a b A B w) (hn:(A++B).length≤100000) :
  Calls Tryz.prog 78 #[.slice (some ⟨g,0,none⟩) 2 2] w (OwnP 42 10 enM w (A++B)):=by
 have HG:=hid (fun (z:World) (m:Nat) (hm:m≤1000000)=>grow_nil m z hm)
 have HH:=hid h
 have hz:g<w.heap.size:=h.lt
 obtain⟨i0,hi,hz0,hz1,hz2⟩:=info_parts info_M
 have HI:=hid hi
 have HZ0:=hid hz0
 have HZ1:=hid hz1
 have HZ2:=hid hz2
 obtain⟨C,hC⟩:∃ C:Nat→List Ro,C=cat2 A B:=⟨_,rfl⟩
 have HC3:=hid (show A++B=C 2 from by rw [hC];rfl)
 have HC0:=hid (show C 0=[] from by rw [hC];rfl)
 have HCl:=hid (fun k=>(show (C k).length≤100000 from by rw [hC];exact Nat.le_trans (cat2_len k) hn))
 have HCs:=hid (fun (z:World) (hzb:Below w.heap.size w z) (k:Nat) (hk:k<2)=>show ∃ X ao cap,z.cell? ⟨g,k,none⟩=some (.slice ao X.length cap)∧MRow z (.slice ao X.length cap) X∧C (k+1)=C k++X from by rw [hC];exact (h.below hzb).get hk)
 rw [HC3.out]
 clear hi hz0 hz1 hz2 h hC hn
 go_enter Tryz.func78,Tryz.ntmps78
 go_wp2_with fail
 go_loop [3,11] (fun sv iv=>∃ k m:Nat,k≤2∧iv=.int .i64 k∧sv=.int .i64 m∧Hid (m=(C k).length)) (fun _ iv=>2 - (intOf iv).toNat)
 case atStart=>exact⟨0,0,by omega,rfl,rfl,hid (by rw [HC0.out];rfl)⟩
 case round=>
  obtain⟨k,m,hk,rfl,rfl,hm⟩:=hrel
  have hml:m≤100000:=by rw [hm.out];exact HCl.out k
  by_cases hlt:k<2
  ·
   obtain⟨X,ao,cap,hc,-,hcat⟩:=HCs.out w (Below.refl _ _) k hlt
   have hlen:(C (k+1)).length=(C k).length+X.length:=by rw [hcat];simp
   have hm2:=HCl.out (k+1)
   obtain⟨mx,hmx⟩:∃ q,q=X.length:=⟨_,rfl⟩
   rw [←hmx] at hc hlen
   have hmx2:m+mx≤100000:=by rw [hm.out];omega
   have HM:=hid (show m+mx=(C (k+1)).length by rw [hm.out,hlen])
   clear hlen hm2 hcat hmx
   go_wp2
   go_round
   case rel=>exact⟨k+1,m+mx,by omega,by go_num,by go_num,HM⟩
   case measure=>simp [intOf];omega
  ·
   obtain rfl:k=2:=by omega
   go_wp2_with fail
   refine (HG.out _ m (by omega)).mono ?_
   rintro e w1 ⟨v,rfl,hown,hb1⟩
   have HO:=hid (show w1.ownsRow w.heap.size 42 10 v (C 0).length ((C 0).flatMap enM) from by rw [HC0.out];exact hown)
   have HB1:=hid hb1
   clear hown hb1 hm
   go_wp2_with fail
   go_loopw [6,27] (fun ov iv wr=>∃ k:Nat,k≤2∧iv=.int .i64 k∧Hid (wr.ownsRow w.heap.size 42 10 ov (C k).length ((C k).flatMap enM))∧Hid (Below w.heap.size w wr)) (fun _ iv _=>2 - (intOf iv).toNat)
   case atStart=>exact⟨0,by omega,rfl,HO,HB1⟩
   case round=>
    obtain⟨k,hk,rfl,hown,hbl⟩:=hrel
    by_cases hlt:k<2
    ·
     obtain⟨X,ao,cap,hc,hX,hcat⟩:=HCs.out _ hbl.out k hlt
     have HCAT:=hid hcat
     have hm2:=HCl.out (k+1)
     have hlen:(C (k+1)).length=(C k).length+X.length:=by rw [hcat];simp
     have hsum:(C k).length+X.length≤100000:=by omega
     have HX:=hid hX
     have HS:=hid hsum
     have hbs:=hbl.out.size
     clear hcat hm2 hlen hX hsum
     cases ao with
     | none=>
      have h0:=HX.out.nil_of
      have HX0:=hid h0
      rw [h0] at hc
      clear h0
      go_wp2_with (at_builtin;refine wpList_append_own_none' rfl _ _ 22 rfl w.heap.size 42 i0 10 cap Tryz.underlying22 HI.out _ _ _ rfl hown.out rfl ?_)
      go_roundw
      case rel=>exact⟨k+1,by omega,by go_num,by rw [HCAT.out,HX0.out,List.append_nil];exact hown,hbl⟩
      case measure=>simp [intOf];omega
     | some ad=>
      obtain⟨mx,hmx⟩:∃ q,q=X.length:=⟨_,rfl⟩
      rw [←hmx] at hc
      have HMX:=hid hmx
      have hmm:mx≤100000:=by have:=HS.out;omega
      clear hmx
      go_wp2_with (at_builtin;refine wpList_append_own _ rfl _ _ 22 rfl w.heap.size 42 i0 zeroM 10 120 Tryz.underlying22 HI.out HZ0.out HZ1.out HZ2.out rfl (by decide) _ _ _ rfl hown.out ad mx cap (X.flatMap enM) rfl ?c1 ?c2 ?c3 ?c4 ?c5 ?c6 ?_)
      case c1=>rw [HMX.out];exact flatMap_len enM_len X
      case c2=>exact Lst.news enM_len (by decide) HX.out.row
      case c3=>exact flatM_one HX.out.forms
      case c4=>have:=HS.out;have:=HMX.out;unfold maxLen;omega
      case c5=>have:=HS.out;have:=HMX.out;omega
      case c6=>exact hbs
      intro v' w3 hown3 hgrow3 _
      have hb3:Below w.heap.size w w3:=hbl.out.grown hgrow3 hbs (fun k hk=>(World.ownsRow.lt hown.out k hk).1)
      have HO3:=hid (show w3.ownsRow w.heap.size 42 10 v' (C (k+1)).length ((C (k+1)).flatMap enM) from by rw [HCAT.out,List.length_append,List.flatMap_append,←HMX.out];exact hown3)
      have HB3:=hid hb3
      clear hown3 hgrow3 hb3
      go_wp2
      go_roundw
      case rel=>exact⟨k+1,by omega,by go_num,HO3,HB3⟩
      case measure=>simp [intOf];omega
    ·
     obtain rfl:k=2:=by omega
     go_wp2_with fail
     go_ret
     exact⟨_,rfl,hown.out,hbl.out⟩
theorem memsort_any (base:Nat) (v:Value) (R:List Ro) (w:World) (hown:w.ownsRow base 42 10 v R.length (R.flatMap enM)) (hoff:∀ x∈R,Okay w v.ownBlock x) (hn:R.length≤1000000) :
  Calls Tryz.prog 79 #[v,.func (.func 80) #[] #[]] w (SortM base w v R):=by
 have hcase:=hown
 obtain⟨-,⟨e,h0⟩ | ⟨g,cap,cur,e,-⟩⟩:=hcase
 ·
  subst e
  obtain rfl:R=[]:=List.eq_nil_of_length_eq_zero h0
  refine (AnyF.slices_SortFunc_none laySort none 0 _ w).mono ?_
  rintro e w' ⟨rfl,rfl⟩
  exact⟨rfl,[],List.Perm.refl _,List.Pairwise.nil,hown,World.grownBy.refl _ _⟩
 ·
  subst e
  exact memsort_some base g cap R w hown hoff hn
def rowIns (m:Mu):List Mu→List Mu
 | []=>[m]
 | x::l=>if sibC m x≤0 then m::x::l else x::rowIns m l
def rowsF:List Mu→List Mu
 | []=>[]
 | m::l=>rowIns m (rowsF l)
theorem rowIns_perm (m:Mu):∀ l,(rowIns m l).Perm (m::l)
 | []=>List.Perm.refl _
 | x::l=>by
  unfold rowIns
  split
  · exact List.Perm.refl _
  · exact ((rowIns_perm m l).cons x).trans (List.Perm.swap m x l)
theorem rowsF_perm:∀ l,(rowsF l).Perm l
 | []=>List.Perm.refl _
 | m::l=>(rowIns_perm m (rowsF l)).trans ((rowsF_perm l).cons m)
theorem le_trans_sib {a b c:Mu} (h1:sibC a b≤0) (h2:sibC b c≤0):sibC a c≤0:=sibO.le_le h1 h2
theorem rowIns_sorted (m:Mu):∀ l:List Mu,l.Pairwise (fun a b=>sibC a b≤0)→(rowIns m l).Pairwise (fun a b=>sibC a b≤0)
 | [],_=>List.pairwise_singleton _ _
 | x::l,h=>by
  obtain⟨h1,h2⟩:=List.pairwise_cons.1 h
  unfold rowIns
  split
  ·
   rename_i hle
   exact List.pairwise_cons.2 ⟨fun y hy=>by
    rcases List.mem_cons.1 hy with rfl | hy
    · exact hle
    · exact le_trans_sib hle (h1 y hy),h⟩
  ·
   rename_i hle
   refine List.pairwise_cons.2 ⟨fun y hy=>?_,rowIns_sorted m l h2⟩
   rcases List.mem_cons.1 ((rowIns_perm m l).mem_iff.1 hy) with rfl | hy
   ·
    have:=sibO.swap x y
    omega
   · exact h1 y hy
theorem rowsF_sorted:∀ l,(rowsF l).Pairwise (fun a b=>sibC a b≤0)
 | []=>List.Pairwise.nil
 | m::l=>rowIns_sorted m _ (rowsF_sorted l)
theorem sorted_one:∀ {l m:List Mu},l.Perm m→l.Pairwise (fun a b=>sibC a b≤0)→m.Pairwise (fun a b=>sibC a b≤0)→l=m
 | [],m,hp,_,_=>by rw [List.nil_perm.1 hp]
 | x::l,[],hp,_,_=>by have:=hp.length_eq;simp at this
 | x::l,y::m,hp,hl,hm=>by
  obtain⟨hx,hl'⟩:=List.pairwise_cons.1 hl
  obtain⟨hy,hm'⟩:=List.pairwise_cons.1 hm
  have exy:x=y:=by
   rcases List.mem_cons.1 (hp.mem_iff.1 (List.mem_cons_self (a:=x))) with h | h
   · exact h
   ·
    rcases List.mem_cons.1 (hp.mem_iff.2 (List.mem_cons_self (a:=y))) with h2 | h2
    · exact h2.symm
    ·
     have a1:=hy x h
     have a2:=hx y h2
     have a3:=sibO.swap x y
     have a4:=sibO.swap y x
     exact (sibO.zero x y).1 (by omega)
  subst exy
  exact congrArg (x::·) (sorted_one ((List.perm_cons x).1 hp) hl' hm')
theorem rowsF_one {l m:List Mu} (hp:m.Perm l) (hs:m.Pairwise (fun a b=>sibC a b≤0)):m=rowsF l:=
 sorted_one (hp.trans (rowsF_perm l).symm) hs (rowsF_sorted l)
theorem rowsF_mem {l:List Mu} {m:Mu}:m∈rowsF l ↔ m∈l:=(rowsF_perm l).mem_iff
theorem rowsF_len (l:List Mu):(rowsF l).length=l.length:=(rowsF_perm l).length_eq
def RowsP (w:World) (l:List Mu) (e:Ending) (w':World):Prop:=
 ∃ v R,e=.returned v∧R.map (·.1)=rowsF l∧MRow w' v R∧Below w.heap.size w w'
theorem rows_any (a b d:Value) (c:Con) (n:Nat) (w:World) (hc:Lies w a b d c) (hO:Okc c n) (hn:n≤100000) :
  Calls Tryz.prog 41 #[.agg #[a,b,d]] w (RowsP w (c.cells++c.sibs)):=by
 obtain⟨ao,na,ac,rfl⟩:=hc.cells.slice
 obtain⟨bo,nb,bc,rfl⟩:=hc.wipes.slice
 obtain⟨dd,nd,dc,rfl⟩:=hc.sibs.slice
 obtain⟨A,eA,hA⟩:=hc.cells
 obtain⟨D,eD,hD⟩:=hc.sibs
 have eall:(A++D).map (·.1)=c.cells++c.sibs:=by rw [List.map_append,eA,eD]
 have hsm:∀ x∈A++D,Small x.1:=fun x hx=>small_right (hO.right _ (by
  have h1:x.1∈c.cells++c.sibs:=by rw [←eall];exact List.mem_map.2 ⟨x,hx,rfl⟩
  rcases List.mem_append.1 h1 with h | h
  · exact List.mem_append.2 (Or.inl h)
  · exact List.mem_append.2 (Or.inr (List.mem_append.2 (Or.inr h)))))
 have hlen:(A++D).length≤100000:=by
  have h1:=congrArg List.length eall
  have h2:=hO.len
  have h3:c.all.length=c.cells.length+(c.wipes.length+c.sibs.length):=by unfold Con.all;simp
  rw [List.length_map] at h1
  rw [h1,List.length_append]
  omega
 obtain⟨L,hL⟩:∃ L,L=A++D:=⟨_,rfl⟩
 have HCat:=hid (fun (z:World) (h:Cat2 (w.heap.size+1) (.slice ao na ac) (.slice dd nd dc) A D z)=>concat2_any (w.heap.size+1) _ _ A D z h hlen)
 rw [←hL] at eall hlen hsm HCat
 have HMR:=hid (fun x (hx:x∈L)=>show Over w x from by
  rw [hL] at hx
  rcases List.mem_append.1 hx with h | h
  · exact hA.over x h
  · exact hD.over x h)
 have HR:=hid (And.intro hA hD)
 have HE:=hid eall
 have HSM:=hid hsm
 have HLN:=hid hlen
 clear hA hD eall hlen hsm hc hO hL eA eD
 go_enter Tryz.func41,Tryz.ntmps41
 go_wp2_with fail
 have hb0:=((Below.refl _ w).alloc (Nat.le_refl _) (.cells #[.slice ao na ac,.slice bo nb bc,.slice dd nd dc] 33)).alloc (by simp) (.cells #[.slice ao na ac,.slice dd nd dc] 22)
 have h3:Cat2 (w.heap.size+1) (.slice ao na ac) (.slice dd nd dc) A D ((w.alloc (.cells #[.slice ao na ac,.slice bo nb bc,.slice dd nd dc] 33)).alloc (.cells #[.slice ao na ac,.slice dd nd dc] 22)):=
  ⟨by simp,by go_simp,by go_simp,HR.out.1.below hb0,HR.out.2.below hb0⟩
 have HB0:=hid hb0
 refine (HCat.out _ h3).mono ?_
 rintro e w1 ⟨v1,rfl,hown1,hb1⟩
 have HB1:=hid (below_then HB0.out (Nat.le_refl _) hb1)
 have hown1:=own_base hown1 HB0.out.size
 have hok:∀ x∈L,Okay w1 v1.ownBlock x:=fun x hx=>⟨Off.old (HMR.out x hx) HB1.out (fun k hk=>(World.ownsRow.lt hown1 k hk).1),(HSM.out x hx).over⟩
 have HSRT:=hid (memsort_any w.heap.size v1 L w1 hown1 hok (by have:=HLN.out;omega))
 have HLT:=hid (World.ownsRow.lt hown1)
 clear h3 hb0 hb1 hown1 hok
 go_wp2_with fail
 refine HSRT.out.mono ?_
 rintro e w2 ⟨rfl,R',hp,hs,ho,hg⟩
 have HB2:=hid (HB1.out.grown hg HB1.out.size (fun k hk=>(HLT.out k hk).1))
 have HF:=hid (And.intro hp (And.intro hs ho))
 clear hp hs ho hg
 go_wp2_with fail
 go_ret
 refine⟨v1,R',rfl,?_,?_,HB2.out⟩
 ·
  refine rowsF_one ?_ (List.pairwise_map.2 HF.out.2.1)
  have h1:=HF.out.1.map (·.1)
  rw [HE.out] at h1
  exact h1
 · exact⟨Lst.owned enM_len (by decide) rfl HF.out.2.2,fun x hx=>(HMR.out x (HF.out.1.mem_iff.1 hx)).below HB2.out⟩
end Go.Proofs.YtpeoonnglnchnaaGreatDoor.Mut
