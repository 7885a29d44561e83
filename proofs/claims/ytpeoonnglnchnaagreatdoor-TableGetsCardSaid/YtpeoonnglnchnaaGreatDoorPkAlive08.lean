/- The walk of the law's alive (layer 8). · The law's alive: a table of one mutation has it (layer 16). · An append to a slice without spare room makes memory alone (of any program); at rows of mutations. · Rows of bytes: slices.Equal, slices.Clone; wire.Put behind the one byte of a literal (layers 3, 8). · The walk of the law TableBack (layer 16). -/
import Derived.Test.YtpeoonnglnchnaaGreatDoorConMore
import Derived.Test.YtpeoonnglnchnaaGreatDoorTabOpen
import Derived.Test.YtpeoonnglnchnaaGreatDoorPkConArg
import Derived.Test.YtpeoonnglnchnaaGreatDoorPkAppendLoc
import Derived.Test.YtpeoonnglnchnaaGreatDoorPkSpareAny
import Derived.Test.YtpeoonnglnchnaaGreatDoorMutCopies
set_option linter.unusedSimpArgs false
set_option linter.unusedVariables false
set_option maxHeartbeats 16000000
set_option maxRecDepth 100000
namespace Go.Proofs.YtpeoonnglnchnaaGreatDoor.Mut
open Go.RowKit Go.Sort Go.Proofs.YtpeoonnglnchnaaGreatDoor.Ord
set_option linter.unusedSectionVars false
variable [Inhabited Lim]
def kB:ByteArray:=⟨#[107]⟩
def vB:ByteArray:=⟨#[118]⟩
def mA:Mu:=⟨1,1,kB,⟨#[]⟩,vB,0,⟨2,0,0⟩,[]⟩
theorem rightA:rightF mA=true:=by kernel_rfl
def rA:Ro:=(mA,.slice none 0 0)
end Go.Proofs.YtpeoonnglnchnaaGreatDoor.Mut

namespace Go.Proofs.YtpeoonnglnchnaaGreatDoor.Tab
open Go.Lib (hid)
open Go.RowKit Go.Proofs.YtpeoonnglnchnaaGreatDoor.Ord Go.Proofs.YtpeoonnglnchnaaGreatDoor.Spare Go.Proofs.YtpeoonnglnchnaaGreatDoor.Mut Go.Proofs.YtpeoonnglnchnaaGreatDoor.Mrk Go.Proofs.YtpeoonnglnchnaaGreatDoor.Rd
set_option linter.unusedSectionVars false
variable [Inhabited Lim]
def jB:ByteArray:=⟨#[106]⟩
theorem one_reps:Reps (Fits [mA]) ⟨[mA],[],[]⟩ where
 fit:=fun m h=>fit_of h.2
 cells:=fun m h=>by
  rw [List.mem_singleton] at h;subst h
  exact⟨⟨by simp,rightA⟩,by show ¬ (1:Int)=2;decide,by show ¬ (1:Int)=3;decide⟩
 wipes:=fun _ h=>by cases h
 sibs:=fun m=>⟨fun h=>(by cases h),fun h=>by
  obtain⟨⟨h1,-⟩,h2⟩:=h
  rw [List.mem_singleton] at h1
  subst h1
  exact absurd h2 (by show ¬ (1:Int)=2;decide)⟩
 rc:=List.pairwise_singleton _ _
 rw_:=List.Pairwise.nil
 rs:=List.Pairwise.nil
 free:=fun _ _ w hw=>by cases hw
 alone:=fun _ h=>by cases h
 domW:=fun x h1 h2=>by
  obtain⟨h1,-⟩:=h1
  rw [List.mem_singleton] at h1
  subst h1
  exact absurd h2.2 (by show ¬ (1:Int)=3;decide)
 domC:=fun x h1 h2=>by
  obtain⟨h1,-⟩:=h1
  rw [List.mem_singleton] at h1
  subst h1
  exact Or.inl ⟨mA,by simp,rfl,by rw [muO.self];omega⟩
theorem one_left:Mut.leftOf [mA]=⟨[mA],[],[]⟩:=(Mut.leftOf_eq one_reps).symm
theorem one_rows:rowsC (Mut.leftOf [mA])=[mA]:=by rw [one_left];rfl
theorem one_k:(rowsC (Mut.leftOf [mA])).filter (keyB kB)=[mA]:=by
 rw [one_rows]
 have e:keyB kB mA=true:=by unfold keyB;exact beq_self_eq_true _
 simp [e]
theorem one_j:(rowsC (Mut.leftOf [mA])).filter (keyB jB)=[]:=by
 rw [one_rows]
 have e:keyB jB mA=false:=by kernel_rfl
 simp [e]
theorem one_reads:readsF (Mut.leftOf [mA]) kB=1:=by
 unfold readsF
 have h1:mayF (bitsC (Mut.leftOf [mA])) mA.key (8*sizeC (Mut.leftOf [mA]))=true:=may_key (by rw [one_rows];exact List.mem_singleton.2 rfl)
 have h2:mayF (bitsC (Mut.leftOf [mA])) kB (8*sizeC (Mut.leftOf [mA]))=true:=h1
 rw [if_pos h2,one_rows,pagesF_short _ (by simp) (by simp)]
 show hitsF [[mA]] kB 1=1
 show 0+cond (hitF [[mA]] kB 0) 1 0=1
 have h3:hitF [[mA]] kB 0=true:=by
  show (!lessS kB kB && (decide (1≤0+1) || _))=true
  rw [less_irrefl]
  simp
 rw [h3]
 rfl
theorem sizeC_pos (c:Con):0<sizeC c:=by unfold sizeC sizeF;omega
theorem sizeC_le (c:Con):sizeC c≤65536:=Nat.min_le_right _ _
theorem one_row (w:World) (t:TypeId):MRow (w.alloc (.cells ⟨enM rA⟩ t)) (.slice (some ⟨w.heap.size,0,none⟩) 1 1) [rA]:=by
 refine⟨⟨_,1,rfl,by decide,by decide,Or.inr ⟨_,_,rfl,by simp,fun i x hi j hj=>?_⟩⟩,fun x hx=>?_⟩
 ·
  rw [cells_at (heap_alloc_new w _),Nat.zero_add]
  have:[rA].flatMap enM=enM rA:=by simp
  rw [←this]
  exact flatMap_get enM_len _ i x hi j hj
 ·
  rw [List.mem_singleton] at hx
  subst hx
  exact⟨Lst.nil _,ZN.none _ _⟩
theorem tbl_below {w w1 w2:World} {t:Nat} (hb:Below w.heap.size w w1) (ht:w.heap.size≤t) (hg:w1.grownBy w2 (some t)):Below w.heap.size w w2:=hb.grown hg hb.size (fun j hj=>by cases hj;exact ht)
theorem alive16_any (w:World) (hT:Tabs w):Calls Tryz.prog 17 #[] w fun e w'=>e=.returned (.bool true)∧Below w.heap.size w w':=by
 have HT:=hid hT
 clear hT
 obtain⟨W0,hW0⟩:∃ z,z=w.alloc (.cells ⟨enM rA⟩ 42):=⟨_,rfl⟩
 obtain⟨W1,hW1⟩:∃ z,z=W0.alloc (.cells ⟨enM rA⟩ 42):=⟨_,rfl⟩
 have hb0:Below w.heap.size w W0:=by rw [hW0];exact (Below.refl _ _).alloc (Nat.le_refl _) _
 have hb1:Below w.heap.size w W1:=by rw [hW1];exact hb0.alloc hb0.size _
 have hrow:MRow W1 (.slice (some ⟨W0.heap.size,0,none⟩) 1 1) [rA]:=by rw [hW1];exact one_row W0 _
 have hs0:W0.heap.size=w.heap.size+1:=by rw [hW0];simp
 rw [hs0] at hrow
 obtain⟨c,hc⟩:∃ c,c=Mut.leftOf [mA]:=⟨_,rfl⟩
 have HGC:=hid (show Mut.Good c 1 from by rw [hc];exact Mut.leftOf_good [mA])
 have HOF:=hid (show Calls Tryz.prog 10 #[.slice (some ⟨w.heap.size+1,0,none⟩) 1 1] W1 (RetC c W1) from by
  rw [hc]
  exact c_of (HT.out.below hb1) ⟨[rA],rfl,hrow⟩ (by simp) (fun m hm=>by rw [List.mem_singleton] at hm;subst hm;exact small_right rightA))
 have HK:=hid (show getT (pagesF (rowsC c)) (bitsC c) (sizeC c) kB=([mA],1) from by rw [getT_rows HGC.out,hc,one_k,one_reads])
 have HJ:=hid (show (getT (pagesF (rowsC c)) (bitsC c) (sizeC c) jB).1=[] from by rw [getT_rows HGC.out,hc,one_j])
 have HGP:=hid (good_pages HGC.out (by omega))
 have HB1:=hid hb1
 have HW1:=hid (show W1=(w.alloc (.cells ⟨enM rA⟩ 42)).alloc (.cells ⟨enM rA⟩ 42) from by rw [hW1,hW0])
 clear hW0 hW1 hb0 hb1 hrow hs0 hc
 go_enter Tryz.func17,Tryz.ntmps17
 go_wp2_with fail
 have HOF2:=HOF.out
 rw [HW1.out] at HOF2
 refine HOF2.mono ?_
 clear HOF2 HOF
 rw [←HW1.out]
 clear HW1
 rintro e w2 ⟨cv,rfl,hic,hb2⟩
 have HB2:=hid (below_then HB1.out (Nat.le_refl _) hb2)
 have HPU:=hid (tabput_any hic HGC.out (by omega))
 clear hic hb2
 go_wp2_with fail
 refine HPU.out.mono ?_
 rintro e w3 ⟨bv,rfl,hob,hb3⟩
 have HB3:=hid (below_then HB2.out (Nat.le_refl _) hb3)
 have HOP:=hid (topen_any bv c 1 w3 w (row_of hob) HGC.out (by omega) HT.out HB3.out)
 clear hob hb3 HPU
 go_wp2_with fail
 refine HOP.out.mono ?_
 rintro e w4 ⟨t,lv,wv,fv,rfl,htw,htb,hb4⟩
 have HB4:=hid (below_then HB3.out (Nat.le_refl _) hb4)
 have htw2:w.heap.size≤t:=Nat.le_trans HB3.out.size htw
 have HG1:=hid (tget_any t lv wv fv 0 _ _ _ _ kB w4 w htb HT.out HB4.out htw2 HGP.out (sizeC_pos c) (sizeC_le c) (by decide) (by omega))
 clear htb hb4 htw HOP
 rw [HK.out] at HG1
 go_wp2_with fail
 refine HG1.out.mono ?_
 rintro e w5 ⟨v5,R5,rfl,hm5,hc5,ht5,hg5⟩
 have hl5:R5.length=1:=by have:=congrArg List.length hm5;simpa using this
 obtain⟨o5,q5,hv5⟩:=row_form hc5.row
 rw [hl5] at hv5
 subst hv5
 have HB5:=hid (tbl_below HB4.out htw2 hg5)
 have HT5:=hid (show Tbl w5 t lv wv fv 1 (pagesF (rowsC c)) c.wipes (bitsC c) (sizeC c) from ht5)
 have HRE:=hid (treads_any t lv wv fv 1 _ _ _ _ w5 HT5.out)
 clear hm5 hl5 hc5 ht5 hg5 HG1
 go_wp2_with fail
 refine HRE.out.mono ?_
 rintro e w6 ⟨rfl,h1⟩
 subst h1
 have HG2:=hid (tget_any t lv wv fv 1 _ _ _ _ jB w5 w HT5.out HT.out HB5.out htw2 HGP.out (sizeC_pos c) (sizeC_le c) (by decide) (by omega))
 clear HRE
 go_wp2_with fail
 refine HG2.out.mono ?_
 rintro e w7 ⟨v7,R7,rfl,hm7,hc7,ht7,hg7⟩
 have hl7:R7.length=0:=by rw [HJ.out] at hm7;have:=congrArg List.length hm7;simpa using this
 obtain⟨o7,q7,hv7⟩:=row_form hc7.row
 rw [hl7] at hv7
 subst hv7
 have HB7:=hid (tbl_below HB5.out htw2 hg7)
 clear hm7 hl7 hc7 ht7 hg7 HG2
 go_wp2_with fail
 go_ret
 exact⟨rfl,HB7.out⟩
end Go.Proofs.YtpeoonnglnchnaaGreatDoor.Tab

namespace Go.Proofs.YtpeoonnglnchnaaGreatDoor.Spare
open Go Go.RowKit
section
variable {P : Program}
end
end Go.Proofs.YtpeoonnglnchnaaGreatDoor.Spare
namespace Go.Proofs.YtpeoonnglnchnaaGreatDoor.Mut
open Go.RowKit Go.Sort Go.Proofs.YtpeoonnglnchnaaGreatDoor.Ord
set_option linter.unusedSectionVars false
variable [Inhabited Lim]
end Go.Proofs.YtpeoonnglnchnaaGreatDoor.Mut

namespace Go.Proofs.YtpeoonnglnchnaaGreatDoor.Mrk
open Go.RowKit Go.Proofs.YtpeoonnglnchnaaGreatDoor.Spare
end Go.Proofs.YtpeoonnglnchnaaGreatDoor.Mrk

namespace Go.Proofs.YtpeoonnglnchnaaGreatDoor.Tab
open Go.RowKit Go.Proofs.YtpeoonnglnchnaaGreatDoor.Ord Go.Proofs.YtpeoonnglnchnaaGreatDoor.Spare Go.Proofs.YtpeoonnglnchnaaGreatDoor.Mut Go.Proofs.YtpeoonnglnchnaaGreatDoor.Mrk Go.Proofs.YtpeoonnglnchnaaGreatDoor.Rd
set_option linter.unusedSectionVars false
variable [Inhabited Lim]
end Go.Proofs.YtpeoonnglnchnaaGreatDoor.Tab
