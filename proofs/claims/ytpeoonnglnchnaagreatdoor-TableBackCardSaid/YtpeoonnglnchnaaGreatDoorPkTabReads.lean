/- PkTabReads. -/
import Derived.Test.YtpeoonnglnchnaaGreatDoorTabRefWrite
import Derived.Lib.ConvBytes
set_option linter.unusedSectionVars false
set_option linter.unusedSimpArgs false
set_option linter.unusedVariables false
set_option maxHeartbeats 16000000
set_option maxRecDepth 100000
namespace Go.Proofs.YtpeoonnglnchnaaGreatDoor.Tab
open RowKit YtpeoonnglnchnaaGreatDoor.Ord YtpeoonnglnchnaaGreatDoor.Spare Mut Mrk YtpeoonnglnchnaaGreatDoor.Rd
variable [Inhabited Lim]
def hitF (P:List (List Mu)) (key:ByteArray) (i:Nat):Bool:=!lessS key (firstK (P.getD i [])) && (decide (P.length<=i+1) || !lessS (firstK (P.getD (i+1) [])) key)
def hitsF (P:List (List Mu)) (key:ByteArray):Nat->Nat
 | 0=>0
 | k+1=>hitsF P key k+cond (hitF P key k) 1 0
def readsF (c:Con) (key:ByteArray):Nat:=if mayF (bitsC c) key (8*sizeC c)=true then hitsF (pagesF (rowsC c)) key (pagesF (rowsC c)).length else 0
end Go.Proofs.YtpeoonnglnchnaaGreatDoor.Tab
namespace Go.Proofs.YtpeoonnglnchnaaGreatDoor.Tab
open Go.Lib (hid)
open RowKit YtpeoonnglnchnaaGreatDoor.Spare Mut Mrk YtpeoonnglnchnaaGreatDoor.Rd
variable [Inhabited Lim]
theorem bytesWorld_below (w:World) (e:TypeId) (s:ByteArray):Below w.heap.size w (Lib.bytesWorld w e s):=
 ⟨rfl,rfl,rfl,by rw [Lib.bytesWorld_size];omega,fun i hi=>Lib.bytesWorld_at_old w e s i hi⟩
theorem conv_str (w:World) (s:ByteArray) (hs:s.size<=1000000) :
  ∃ cap W',(convert 9 31 (.string s)).run Tryz.prog w=.ok (.slice (some ⟨w.heap.size,0,none⟩) s.size cap) W'/\BRow W' (.slice (some ⟨w.heap.size,0,none⟩) s.size cap) (strL s)/\Below w.heap.size w W'/\w.heap.size<W'.heap.size:=by
 refine⟨_,_,Lib.run_convert_string_bytes w 9 31 5 s Tryz.underlying9 Tryz.underlying31 Tryz.underlying5,?_,bytesWorld_below w _ s,by rw [Lib.bytesWorld_size];omega⟩
 refine⟨some ⟨w.heap.size,0,none⟩,grownCap w s.size 0 5,by rw [strL_len],by rw [strL_len];exact grownCap_ge w s.size 0 _,grownCap_le_maxLen w s.size 0 _ (by unfold maxLen;omega),Or.inr ⟨w.heap.size,0,rfl,by rw [Lib.bytesWorld_size];omega,fun i x hx j hj=>?_⟩⟩
 obtain rfl:j=0:=by omega
 have hi:=(gs0.1 hx).1
 rw [strL_len] at hi
 rw [Nat.zero_add,Nat.mul_one,Nat.add_zero,Lib.bytesWorld_cell w _ s i hi]
 have hx2:(s.data.toList[i]?).map UInt8.toNat=some x:=by
  unfold strL at hx
  rwa [List.getElem?_map] at hx
 have hd:s.data.toList.getD i 0=s.data.toList[i]'(by rw [Array.length_toList];exact hi):=by
  rw [List.getD_eq_getElem?_getD,ge0 (by rw [Array.length_toList];exact hi)];rfl
 rw [ge0 (by rw [Array.length_toList];exact hi)] at hx2
 injection hx2 with hx2
 rw [hd,hx2]
 rfl
theorem end_any (r:Nat) (v:Value) (B:List Nat) (w:World) (h:Rdr w r v B (B.length,0)) :
  Calls Tryz.prog 38 #[pR r] w fun e w'=>e=.returned (.int .i64 0)/\Below w.heap.size w w':=by
 have hl:=left_any r v B (B.length,0) w h
 simp only [Nat.sub_self] at hl
 have HL:=hid hl
 have HR:=hid h
 clear hl h
 go_enter Tryz.func38,Tryz.ntmps38
 go_wp2_with fail
 refine HL.out.mono ?_
 rintro e w1 ⟨rfl,hb⟩
 have h1:=HR.out.below hb
 have HB:=hid hb
 obtain⟨h0,c0,c1,c2,f0,f1,f2,-,-,-,-⟩:=h1
 clear hb
 go_wp2_with fail
 go_ret
 exact⟨rfl,HB.out⟩
def SvP (r:Nat) (v:Value) (B:List Nat) (s:ByteArray) (q:S) (w:World) (e:Ending) (w':World):Prop:=
 ∃ g cap,e=.returned (.agg #[.slice (some ⟨g,0,none⟩) s.size cap])/\w.heap.size<=g/\g<w'.heap.size/\BRow w' (.slice (some ⟨g,0,none⟩) s.size cap) (strL s)/\Rdr w' r v B q/\w.grownBy w' (some r)
theorem svget_any (r:Nat) (v:Value) (B:List Nat) (s:S) (q:Nat) (t:ByteArray) (w:World) (h:Rdr w r v B s) (hB:∀ c∈B,c<256) (ht:textS B 65536 s=(t,(q,0))) (hts:t.size<=1000000) :
  Calls Tryz.prog 36 #[pR r] w (SvP r v B t (q,0) w):=by
 have HN2:=hid (show ∀ w1,Rdr w1 r v B s->Calls Tryz.prog 34 #[pR r,.int .i64 65536] w1 (RdP r v B (q,0) (.string t) w1) from fun w1 h=>by have h1:=text_any r v B 65536 s w1 h hB;rw [ht] at h1;exact h1)
 have HWY:=hid (fun (s:S) (w1:World) (h:Rdr w1 r v B s)=>why_any r v B s w1 h)
 have hrw:r<w.heap.size:=h.lt
 have HVL:=hid (show B≠[]->∀ ad n c,v=.slice (some ad) n c->ad.block<w.heap.size from fun hb ad n c e=>h.vlow hb ad n c e)
 obtain⟨W0,hW0⟩:∃ W,W=w.alloc (.cells #[.slice none 0 0] 67):=⟨_,rfl⟩
 obtain⟨k2,hk2⟩:∃ k,k=w.heap.size:=⟨_,rfl⟩
 have hb0:Below w.heap.size w W0:=by rw [hW0];exact br.alloc lr _
 have HZ0:=hid (show W0.heap[k2]?=some (.cells #[.slice none 0 0] 67 (0,0)) from by rw [hW0,hk2];exact heap_alloc_new w _)
 have HR0:=hid (h.below hb0)
 have HG0:=hid (show w.grownBy W0 (some r) from below_grown hb0)
 have HW0:=hid hW0
 have HK2:=hid hk2
 clear hW0 hk2 hb0 h hB ht
 go_enter Tryz.func36,Tryz.ntmps36
 go_upto_region 1 with fail
 rw [<-HW0.out,<-HK2.out]
 go_wp2_with fail
 refine (HN2.out W0 HR0.out).mono ?_
 rintro e w1 ⟨rfl,hr1,hg1⟩
 have HR1:=hid hr1
 have HG1:=hid (HG0.out.andThen hg1 (fun j hj=>Or.inr hj))
 have HZ1:=hid ((hg1.block k2 (ag0.1 HZ0.out).1 (by rw [HK2.out];simp;omega)).trans HZ0.out)
 clear hr1 hg1
 go_wp2_with fail
 refine (HWY.out _ w1 HR1.out).mono ?_
 rintro e w2 ⟨rfl,h1⟩
 subst h1
 obtain⟨cap,W3,hcv,hrow,hb3,hgl⟩:=conv_str w1 t hts
 have hk2l:=(ag0.1 HZ1.out).1
 have hz3:=(hb3.block k2 hk2l).trans HZ1.out
 have HR3:=hid (HR1.out.below hb3)
 have HG3:=hid (show w.grownBy W3 (some r) from HG1.out.andThen (below_grown (row:=none) hb3) (fun j hj=>by cases hj))
 obtain⟨g,hg⟩:∃ g,g=w1.heap.size:=⟨_,rfl⟩
 rw [<-hg] at hcv hrow hgl
 obtain⟨n,hn⟩:∃ n,n=t.size:=⟨_,rfl⟩
 rw [<-hn] at hcv hrow
 have y0:W3.cell? ⟨k2,0,none⟩=some (.slice none 0 0):=by rw [cell_of_row W3 k2 0 _ _ (0,0) hz3];rfl
 have g0:W3.frozen? ⟨k2,0,none⟩=false:=frozen_of_row W3 k2 0 _ _ hz3
 have hgne:g≠k2:=by omega
 obtain⟨W4,hW4⟩:∃ W,W=W3.setCell ⟨k2,0,none⟩ (.slice (some ⟨g,0,none⟩) n cap):=⟨_,rfl⟩
 have hg4:W3.grownBy W4 (some k2):=by rw [hW4];exact grown_cell' W3 k2 0 _
 have hz4:W4.heap[k2]?=some (.cells #[.slice (some ⟨g,0,none⟩) n cap] 67 (0,0)):=by rw [hW4];exact heap_setCell_same _ k2 0 _ _ _ hz3
 have HF:=hid (show SvP r v B t (q,0) w (.returned (.agg #[.slice (some ⟨g,0,none⟩) n cap])) W4 from by
  refine⟨g,cap,by rw [hn],by rw [hg];exact HG1.out.size,Nat.lt_of_lt_of_le hgl hg4.size,?_,HR3.out.apart hg4 (by have:=HK2.out;omega) (fun hb ad n c e=>by have:=HVL.out hb ad n c e;have:=HK2.out;omega),HG3.out.andThen hg4 (fun j hj=>by cases hj;exact Or.inl (by rw [HK2.out];exact Nat.le_refl _))⟩
  rw [<-hn]
  exact lst_beside hrow hg4 (fun _ ad n c e=>by injection e with e;injection e with e;rw [<-e];exact hgne))
 have HW4:=hid hW4
 have HZ4:=hid hz4
 clear hz3 hrow hb3 hgl hg hn hW4 hg4 hz4 hk2l
 go_wp2_with fail
 rw [<-HW4.out]
 exact bodyPost_ret (v:=.agg #[.slice (some ⟨g,0,none⟩) n cap]) (results_cell_row rfl _ _ k2 67 _ (0,0) _ rfl HZ4.out Tryz.underlying67 rfl (by kernel_rfl)) rfl HF.out
theorem encLen_pos (r:Nat):0<encLen r:=by
 unfold encLen
 split
 . decide
 split
 . decide
 split <;> decide
theorem shared_bytes {a b:ByteArray}:∀ (f g pos:Nat),wellFrom a f pos->wellFrom b g pos->a.size<=pos+f->b.size<=pos+g->∀ j,j<sharedR (runesFrom a f pos) (runesFrom b g pos)->a.get! (pos+j)=b.get! (pos+j)
 | 0,g,pos,_,_,_,_,j,h=>by simp [runesFrom,sharedR] at h
 | f+1,g,pos,wa,wb,ha,hb,j,h=>by
  by_cases hp:pos<a.size
  ·
   obtain⟨fa,wa2⟩:=well_step wa hp
   have hl:=fine_len hp fa
   by_cases hc:pos+(Utf8.decode a pos).2<=b.size/\a.extract pos (pos+(Utf8.decode a pos).2)=b.extract pos (pos+(Utf8.decode a pos).2)
   ·
    obtain⟨g',rfl,wb2,e⟩:=shared_go (f:=f) hp fa wb hb hc.1 hc.2
    rw [e] at h
    by_cases hj:j<(Utf8.decode a pos).2
    . exact (extract_eq (by omega) hl.2.1 hc.1).1 hc.2 j (by omega)
    ·
     have h1:=shared_bytes f g' _ wa2 wb2 (by have:=hl.1;have:=encLen_pos (Utf8.decode a pos).1;omega) (by have:=hl.1;have:=encLen_pos (Utf8.decode a pos).1;omega) (j - (Utf8.decode a pos).2) (by omega)
     rw [show pos+(Utf8.decode a pos).2+(j - (Utf8.decode a pos).2)=pos+j by omega] at h1
     exact h1
   ·
    rw [shared_stop (f:=f) hp fa wb hb hc] at h
    omega
  ·
   rw [runesFrom_end a (f+1) hp] at h
   simp [sharedR] at h
theorem key_back {last key:ByteArray} (wl:Well last) (wk:Well key):last.extract 0 (sharedF last key)++key.extract (sharedF last key) key.size=key:=by
 have h1:=sharedF_le key wl
 have h2:=sharedF_le2 last wk
 have h3:last.extract 0 (sharedF last key)=key.extract 0 (sharedF last key):=(extract_eq (Nat.zero_le _) h1 h2).2 fun j hj=>shared_bytes last.size key.size 0 wl wk (by omega) (by omega) j (by unfold sharedF runesOf at hj;omega)
 rw [h3]
 apply ByteArray.ext
 simp only [ByteArray.data_append,ByteArray.data_extract]
 have e:key.size=key.data.size:=rfl
 rw [e]
 simp
 exact Or.inr (Nat.le_max_right _ _)
theorem one_back (pre post:List Nat) (last:ByteArray) (m:Mu) (h:rightF m=true) (wl:Well last) (hl:last.size<=24) (hlt:pre.length<4611686018427387904) :
  ∃ p1 p2,countS (pre++(rowB last m++post)) last.size (pre.length,0)=(sharedF last m.key,(p1,0))/\textS (pre++(rowB last m++post)) 24 (p1,0)=(m.key.extract (sharedF last m.key) m.key.size,(p2,0))/\withS (pre++(rowB last m++post)) m.key (p2,0)=(m,(pre.length+(rowB last m).length,0)):=by
 obtain⟨z1,-,-,-⟩:=right_sizes h
 have wk:=keyF_well (right_key h)
 have h1:=sharedF_le m.key wl
 obtain⟨s,hs⟩:∃ s,s=sharedF last m.key:=⟨_,rfl⟩
 have e1:pre++(rowB last m++post)=pre++(putF s++(textF (m.key.extract s m.key.size)++(restM m++post))):=by unfold rowB;rw [<-hs];simp [List.append_assoc]
 have e2:pre++(rowB last m++post)=(pre++putF s)++(textF (m.key.extract s m.key.size)++(restM m++post)):=by rw [e1,List.append_assoc]
 have e3:pre++(rowB last m++post)=((pre++putF s)++textF (m.key.extract s m.key.size))++(restM m++post):=by rw [e2];simp [List.append_assoc]
 have hx:(m.key.extract s m.key.size).size<=24:=by rw [ByteArray.size_extract];omega
 refine⟨pre.length+(putF s).length,(pre++putF s).length+(textF (m.key.extract s m.key.size)).length,?_,?_,?_⟩
 ·
  rw [e1,<-hs]
  exact count_back pre _ s last.size (by omega) (by omega)
 ·
  have h2:=text_back (pre++putF s) (restM m++post) (m.key.extract s m.key.size) 24 (by omega) (by omega)
  rw [e2,<-hs,<-la0]
  exact h2
 ·
  have h3:=raw_back ((pre++putF s)++textF (m.key.extract s m.key.size)) post m h
  change rawS (((pre++putF s)++textF (m.key.extract s m.key.size))++(restM m++post)) m.key (((pre++putF s)++textF (m.key.extract s m.key.size)).length,0)=(m,(((pre++putF s)++textF (m.key.extract s m.key.size)).length+(restM m).length,0)) at h3
  have hlen:((pre++putF s)++textF (m.key.extract s m.key.size)).length=(pre++putF s).length+(textF (m.key.extract s m.key.size)).length:=la0
  rw [<-e3,hlen] at h3
  have hr:(pre++putF s).length+(textF (m.key.extract s m.key.size)).length+(restM m).length=pre.length+(rowB last m).length:=by
   unfold rowB;rw [<-hs];simp only [la0];omega
  unfold withS
  rw [h3,hr]
  simp [h]
theorem one_any (r:Nat) (v:Value) (pre post:List Nat) (last:ByteArray) (m:Mu) (w wb:World) (h:Rdr w r v (pre++(rowB last m++post)) (pre.length,0)) (hB:∀ c∈pre++(rowB last m++post),c<256) (hT:Tabs wb) (hbw:Below wb.heap.size wb w) (hrb:wb.heap.size<=r) (hm:rightF m=true) (wl:Well last) (hl:last.size<=24) :
  Calls Tryz.prog 136 #[pR r,.string last] w (WithP r v (pre++(rowB last m++post)) (m,(pre.length+(rowB last m).length,0)) w):=by
 obtain⟨p1,p2,q1,q2,q3⟩:=one_back pre post last m hm wl hl (by have:=h.small;have:=h.at_;omega)
 obtain⟨B,hBe⟩:∃ B,B=pre++(rowB last m++post):=⟨_,rfl⟩
 obtain⟨pz,hpz⟩:∃ p,p=pre.length+(rowB last m).length:=⟨_,rfl⟩
 rw [<-hBe] at q1 q2 q3 h hB ⊢
 rw [<-hpz] at q3 ⊢
 obtain⟨p0,hp0⟩:∃ p,p=pre.length:=⟨_,rfl⟩
 rw [<-hp0] at q1 h
 have wk:=keyF_well (right_key hm)
 have hks:=(right_sizes hm).1
 obtain⟨sh,hsh⟩:∃ s,s=sharedF last m.key:=⟨_,rfl⟩
 have hs1:sh<=last.size:=by rw [hsh];exact sharedF_le _ wl
 have hkb:=key_back wl wk
 rw [<-hsh] at q1 q2 hkb
 obtain⟨suf,hsuf⟩:∃ s,s=m.key.extract sh m.key.size:=⟨_,rfl⟩
 rw [<-hsuf] at q2 hkb
 have hsf:suf.size<=24:=by rw [hsuf,ByteArray.size_extract];omega
 have HN1:=hid (show ∀ w1,Rdr w1 r v B (p0,0)->Calls Tryz.prog 33 #[pR r,.int .i64 (last.size:Nat)] w1 (RdP r v B (p1,0) (.int .i64 (sh:Nat)) w1) from fun w1 h=>by have h1:=count_any r v B last.size (p0,0) w1 h hB;rw [q1] at h1;exact h1)
 have HN2:=hid (show ∀ w1,Rdr w1 r v B (p1,0)->Calls Tryz.prog 34 #[pR r,.int .i64 24] w1 (RdP r v B (p2,0) (.string suf) w1) from fun w1 h=>by have h1:=text_any r v B 24 (p1,0) w1 h hB;rw [q2] at h1;exact h1)
 have HWY:=hid (fun (s:S) (w1:World) (h:Rdr w1 r v B s)=>why_any r v B s w1 h)
 have HBB:=hid (show ∀ W,w.grownBy W (some r)->Below wb.heap.size wb W from fun W hg=>hbw.grown hg hbw.size (fun j hj=>by cases hj;exact hrb))
 have HVL:=hid (show B≠[]->∀ ad n c,v=.slice (some ad) n c->ad.block<w.heap.size from fun hb ad n c e=>h.vlow hb ad n c e)
 have hrw:r<w.heap.size:=h.lt
 have HSH:=hid (show ∀ z,Calls Tryz.prog 81 #[.string last,.string m.key] z fun e w'=>e=.returned (.int .i64 (sh:Nat))/\Below z.heap.size z w' from fun z=>by rw [hsh];exact shared_any last m.key z (by omega) (by omega) wl wk)
 have HWI:=hid (show ∀ w1,Rdr w1 r v B (p2,0)->w.grownBy w1 (some r)->Calls Tryz.prog 142 #[pR r,.string m.key] w1 (WithP r v B (m,(pz,0)) w1) from fun w1 h hg=>by have h1:=with_any r v B m.key (p2,0) w1 wb h hB hT (HBB.out w1 hg) hrb (by omega);rw [q3] at h1;exact h1)
 obtain⟨tb,kd,ky,fi,va,ex,⟨sp,sl,sw⟩,O⟩:=m
 simp only [] at hkb HWI HSH hks
 obtain⟨W0,hW0⟩:∃ W,W=w.alloc (.cells #[.int .i64 0,.int .i64 0,.string ⟨#[]⟩,.string ⟨#[]⟩,.string ⟨#[]⟩,.int .i64 0,.int .i64 0,.int .i64 0,.int .i64 0,.slice none 0 0] 42):=⟨_,rfl⟩
 obtain⟨k2,hk2⟩:∃ k,k=w.heap.size:=⟨_,rfl⟩
 have hb0:Below w.heap.size w W0:=by rw [hW0];exact br.alloc lr _
 have HZ0:=hid (show W0.heap[k2]?=some (.cells #[.int .i64 0,.int .i64 0,.string ⟨#[]⟩,.string ⟨#[]⟩,.string ⟨#[]⟩,.int .i64 0,.int .i64 0,.int .i64 0,.int .i64 0,.slice none 0 0] 42 (0,0)) from by rw [hW0,hk2];exact heap_alloc_new w _)
 have HR0:=hid (h.below hb0)
 have HG0:=hid (show w.grownBy W0 (some r) from below_grown hb0)
 have HW0:=hid hW0
 have HK2:=hid hk2
 have hls:(last.size:Int)<=24:=by omega
 have hcat:(last.extract 0 sh++suf).size<=24:=by rw [hkb];exact hks
 have hs1i:(sh:Int)<=(last.size:Int):=by omega
 have HKB:=hid hkb
 clear hW0 hk2 hb0 h hT hbw q1 q2 q3 hBe hpz hp0 hsh hsuf wl wk hm hB hkb
 go_enter Tryz.func136,Tryz.ntmps136
 go_upto_region 1 with fail
 rw [<-HW0.out,<-HK2.out]
 go_wp2_with fail
 refine (HN1.out W0 HR0.out).mono ?_
 rintro e w1 ⟨rfl,hr1,hg1⟩
 have HR1:=hid hr1
 have HG1:=hid (HG0.out.andThen hg1 (fun j hj=>Or.inr hj))
 have HZ1:=hid ((hg1.block k2 (ag0.1 HZ0.out).1 (by rw [HK2.out];simp;omega)).trans HZ0.out)
 clear hr1 hg1
 go_wp2_with fail
 refine (HN2.out w1 HR1.out).mono ?_
 rintro e w2 ⟨rfl,hr1,hg1⟩
 have HR2:=hid hr1
 have HG2:=hid (HG1.out.andThen hg1 (fun j hj=>Or.inr hj))
 have HZ2:=hid ((hg1.block k2 (ag0.1 HZ1.out).1 (by rw [HK2.out];simp;omega)).trans HZ1.out)
 clear hr1 hg1
 go_wp2_with fail
 refine (HWY.out _ w2 HR2.out).mono ?_
 rintro e w3 ⟨rfl,h1⟩
 subst h1
 go_wp2_with fail
 rw [HKB.out]
 refine (HWI.out w2 HR2.out HG2.out).mono ?_
 rintro e w4 ⟨ov,rfl,ho2,hr2,hg2⟩
 obtain⟨vo,vc,rfl⟩:=row_form ho2
 simp only [] at ho2 hr2 ⊢
 unfold OwnS at ho2
 obtain⟨n,hn⟩:∃ n,n=O.length:=⟨_,rfl⟩
 rw [<-hn] at ho2 ⊢
 have HN:=hid hn
 obtain⟨W5,hW5⟩:∃ W,W=w4.alloc (.cells #[.int .i64 tb,.int .i64 kd,.string ky,.string fi,.string va,.int .i64 ex,.int .i64 sp,.int .i64 sl,.int .i64 sw,.slice vo n vc] 42):=⟨_,rfl⟩
 obtain⟨k8,hk8⟩:∃ k,k=w4.heap.size:=⟨_,rfl⟩
 have hb5:Below w4.heap.size w4 W5:=by rw [hW5];exact br.alloc lr _
 have HX5:=hid (show W5.heap[k8]?=some (.cells #[.int .i64 tb,.int .i64 kd,.string ky,.string fi,.string va,.int .i64 ex,.int .i64 sp,.int .i64 sl,.int .i64 sw,.slice vo n vc] 42 (0,0)) from by rw [hW5,hk8];exact heap_alloc_new w4 _)
 have HR5:=hid (hr2.below hb5)
 have HO5:=hid (row_below ho2 hb5)
 have HG5:=hid (show w.grownBy W5 (some r) from (HG2.out.andThen hg2 (fun j hj=>Or.inr hj)).andThen (below_grown (row:=none) hb5) (fun j hj=>by cases hj))
 have hk2w:k2<w4.heap.size:=Nat.lt_of_lt_of_le (ag0.1 HZ2.out).1 hg2.size
 have HZ5:=hid ((hb5.block k2 hk2w).trans ((hg2.block k2 (ag0.1 HZ2.out).1 (by rw [HK2.out];simp;omega)).trans HZ2.out))
 have hgs2:=HG2.out.size
 have hk2s:=(ag0.1 HZ2.out).1
 have HNE:=hid (show (Value.slice vo n vc).ownBlock≠some k2 from fun e=>by
  have h1:=(World.ownsRow.lt ho2 _ e).1
  omega)
 have HW5:=hid hW5
 have HK8:=hid hk8
 clear hn ho2 hr2 hg2 hb5 hW5 hk8
 unfold vM
 simp only []
 go_upto_region 7 with fail
 rw [<-HW5.out,<-HK8.out]
 go_wp2_with fail
 refine (HWY.out _ W5 HR5.out).mono ?_
 rintro e w6 ⟨rfl,h1⟩
 subst h1
 go_wp2_with fail
 refine (HSH.out W5).mono ?_
 rintro e w6 ⟨rfl,hb6⟩
 have hx6:=(hb6.block k8 (ag0.1 HX5.out).1).trans HX5.out
 have z0:=(hb6.block k2 (ag0.1 HZ5.out).1).trans HZ5.out
 have HF:=hid (fin_put (w:=w) (m:=⟨tb,kd,ky,fi,va,ex,⟨sp,sl,sw⟩,O⟩) (ov:=.slice vo n vc) (HG5.out.andThen (below_grown (row:=none) hb6) (fun j hj=>by cases hj)) (by rw [HK2.out];exact Nat.le_refl _) hrw z0 (HR5.out.below hb6) HVL.out (by show w6.ownsRow w.heap.size 39 3 (.slice vo n vc) O.length (O.flatMap enS);rw [<-HN.out];exact own_base (row_below HO5.out hb6) HG2.out.size) (Or.inr HNE.out) _ _ _ _ _ _ _ _ _ _ (by unfold vM;rfl) _ rfl)
 have x0:w6.cell? ⟨k8,0,none⟩=some (.int .i64 tb):=by rw [cell_of_row w6 k8 0 _ _ (0,0) hx6];rfl
 have x1:w6.cell? ⟨k8,1,none⟩=some (.int .i64 kd):=by rw [cell_of_row w6 k8 1 _ _ (0,0) hx6];rfl
 have x2:w6.cell? ⟨k8,2,none⟩=some (.string ky):=by rw [cell_of_row w6 k8 2 _ _ (0,0) hx6];rfl
 have x3:w6.cell? ⟨k8,3,none⟩=some (.string fi):=by rw [cell_of_row w6 k8 3 _ _ (0,0) hx6];rfl
 have x4:w6.cell? ⟨k8,4,none⟩=some (.string va):=by rw [cell_of_row w6 k8 4 _ _ (0,0) hx6];rfl
 have x5:w6.cell? ⟨k8,5,none⟩=some (.int .i64 ex):=by rw [cell_of_row w6 k8 5 _ _ (0,0) hx6];rfl
 have x6:w6.cell? ⟨k8,6,none⟩=some (.int .i64 sp):=by rw [cell_of_row w6 k8 6 _ _ (0,0) hx6];rfl
 have x7:w6.cell? ⟨k8,7,none⟩=some (.int .i64 sl):=by rw [cell_of_row w6 k8 7 _ _ (0,0) hx6];rfl
 have x8:w6.cell? ⟨k8,8,none⟩=some (.int .i64 sw):=by rw [cell_of_row w6 k8 8 _ _ (0,0) hx6];rfl
 have x9:w6.cell? ⟨k8,9,none⟩=some (.slice vo n vc):=by rw [cell_of_row w6 k8 9 _ _ (0,0) hx6];rfl
 have y0:w6.cell? ⟨k2,0,none⟩=some (.int .i64 0):=by rw [cell_of_row w6 k2 0 _ _ (0,0) z0];rfl
 have g0:w6.frozen? ⟨k2,0,none⟩=false:=frozen_of_row w6 k2 0 _ _ z0
 have y1:w6.cell? ⟨k2,1,none⟩=some (.int .i64 0):=by rw [cell_of_row w6 k2 1 _ _ (0,0) z0];rfl
 have g1:w6.frozen? ⟨k2,1,none⟩=false:=frozen_of_row w6 k2 1 _ _ z0
 have y2:w6.cell? ⟨k2,2,none⟩=some (.string ⟨#[]⟩):=by rw [cell_of_row w6 k2 2 _ _ (0,0) z0];rfl
 have g2:w6.frozen? ⟨k2,2,none⟩=false:=frozen_of_row w6 k2 2 _ _ z0
 have y3:w6.cell? ⟨k2,3,none⟩=some (.string ⟨#[]⟩):=by rw [cell_of_row w6 k2 3 _ _ (0,0) z0];rfl
 have g3:w6.frozen? ⟨k2,3,none⟩=false:=frozen_of_row w6 k2 3 _ _ z0
 have y4:w6.cell? ⟨k2,4,none⟩=some (.string ⟨#[]⟩):=by rw [cell_of_row w6 k2 4 _ _ (0,0) z0];rfl
 have g4:w6.frozen? ⟨k2,4,none⟩=false:=frozen_of_row w6 k2 4 _ _ z0
 have y5:w6.cell? ⟨k2,5,none⟩=some (.int .i64 0):=by rw [cell_of_row w6 k2 5 _ _ (0,0) z0];rfl
 have g5:w6.frozen? ⟨k2,5,none⟩=false:=frozen_of_row w6 k2 5 _ _ z0
 have y6:w6.cell? ⟨k2,6,none⟩=some (.int .i64 0):=by rw [cell_of_row w6 k2 6 _ _ (0,0) z0];rfl
 have g6:w6.frozen? ⟨k2,6,none⟩=false:=frozen_of_row w6 k2 6 _ _ z0
 have y7:w6.cell? ⟨k2,7,none⟩=some (.int .i64 0):=by rw [cell_of_row w6 k2 7 _ _ (0,0) z0];rfl
 have g7:w6.frozen? ⟨k2,7,none⟩=false:=frozen_of_row w6 k2 7 _ _ z0
 have y8:w6.cell? ⟨k2,8,none⟩=some (.int .i64 0):=by rw [cell_of_row w6 k2 8 _ _ (0,0) z0];rfl
 have g8:w6.frozen? ⟨k2,8,none⟩=false:=frozen_of_row w6 k2 8 _ _ z0
 have y9:w6.cell? ⟨k2,9,none⟩=some (.slice none 0 0):=by rw [cell_of_row w6 k2 9 _ _ (0,0) z0];rfl
 have g9:w6.frozen? ⟨k2,9,none⟩=false:=frozen_of_row w6 k2 9 _ _ z0
 clear z0 hx6 hb6
 go_wp2_with fail
 exact bodyPost_ret (v:=.agg #[.int .i64 tb,.int .i64 kd,.string ky,.string fi,.string va,.int .i64 ex,.int .i64 sp,.int .i64 sl,.int .i64 sw,.slice vo n vc]) (results_cell_row rfl _ _ k2 42 _ (0,0) _ rfl HF.out.2 Tryz.underlying42 rfl size_M) rfl HF.out.1
