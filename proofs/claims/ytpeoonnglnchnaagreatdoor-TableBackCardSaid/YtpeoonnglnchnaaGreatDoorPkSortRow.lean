/- PkSortRow. -/
import Derived.Shelf.SlSortCmp.WholeK
import Derived.Shelf.SlicesQ.Reverse
import Derived.Ground.SlsfProg
import Derived.Ground.SlgnProg
import Derived.Test.YtpeoonnglnchnaaGreatDoorMutRows
set_option linter.unusedSectionVars false
set_option linter.unusedSimpArgs false
set_option linter.unusedVariables false
namespace Go.Proofs.YtpeoonnglnchnaaGreatDoor
open RowKit Go.Sort
section
variable {α : Type} [Inhabited α] {en : α -> List Value} {k : Nat}
theorem flatK_toList (hk : ∀ x, (en x).length = k) (d : Array α) : (flatK en k d).toList = d.toList.flatMap en := by
  have hl : (d.toList.flatMap en).length = d.size * k := by rw [flatMap_len hk]; simp
  apply List.ext_getElem?
  intro t
  by_cases h : t < d.size * k
  . have k0 : 0 < k := by rcases Nat.eq_zero_or_pos k with h0 | h0
                          . subst h0; simp at h
                          . exact h0
    have hd : t / k < d.size := by rw [Nat.div_lt_iff_lt_mul k0]; exact h
    have hm : t % k < k := Nat.mod_lt _ k0
    have h1 := get_flatK en k d t h
    have h2 := flatMap_get hk d.toList (t / k) d[t / k] (by rw [Array.getElem?_toList]; exact Array.getElem?_eq_getElem hd) (t % k) hm
    rw [Nat.div_add_mod' t k] at h2
    rw [h2, Array.getElem?_toList, Array.getElem?_eq_getElem (by simpa using h), <- getElem!_pos (flatK en k d) t (by simpa using h), h1, getElem!_pos d (t / k) hd, getElem!_pos _ _ (by rw [hk]; exact hm), ge0]
  . rw [List.getElem?_eq_none (by simp; omega), List.getElem?_eq_none (by rw [hl]; omega)]
variable {w : World} {base : Nat} {e : TypeId} {g cap : Nat} {R : List α}
theorem owned_parts {n : Nat} {xs : List Value} (h : w.ownsRow base e k (.slice (some ⟨g, 0, none⟩) n cap) n xs) : xs.length = n * k /\ base <= g /\ ∃ cur, w.heap[g]? = some (.cells cur e (0, 0)) /\ n <= cap /\ cap <= maxLen /\ cur.size = cap * k /\ cur.toList.take (n * k) = xs := by
  obtain ⟨h1, ⟨h2, -⟩ | ⟨g', cap', cur, h2, h3, h4, h5, h6, h7, h8⟩⟩ := h
  . cases h2
  . injection h2 with h2 h9 h10
    injection h2 with h2
    injection h2 with h2
    subst h2 h10
    exact ⟨h1, h3, cur, h4, h5, h6, h7, h8⟩
theorem holds_owned (hk : ∀ x, (en x).length = k) (h : w.ownsRow base e k (.slice (some ⟨g, 0, none⟩) R.length cap) R.length (R.flatMap en)) : HoldsK en k w g 0 R.toArray := by
  obtain ⟨h1, h2, cur, h4, h5, h6, h7, h8⟩ := owned_parts h
  intro j hj
  have hj' : j < R.length * k := by simpa using hj
  have hle : R.length * k <= cap * k := Nat.mul_le_mul_right k h5
  constructor
  . rw [Nat.zero_add, cell_of_row _ _ j _ e (0, 0) h4]
    have e1 : cur[j]? = (R.flatMap en)[j]? := by
      rw [<- h8, List.getElem?_take_of_lt hj', Array.getElem?_toList]
    rw [e1]
    have e2 := flatK_toList hk R.toArray
    rw [show R.toArray.toList = R from rfl] at e2
    rw [<- e2, Array.getElem?_toList, Array.getElem?_eq_getElem hj]
    rw [getElem!_pos _ j hj]; rfl
  . simp [World.frozen?, h4]
theorem owned_put (hk : ∀ x, (en x).length = k) (h : w.ownsRow base e k (.slice (some ⟨g, 0, none⟩) R.length cap) R.length (R.flatMap en)) (d : Array α) (hs : d.size = R.length) (n : Nat) (os : Array Obj) :
    (sortWorldK en k w g 0 n d os).ownsRow base e k (.slice (some ⟨g, 0, none⟩) R.length cap) R.length (d.toList.flatMap en) /\ w.grownBy (sortWorldK en k w g 0 n d os) (some g) := by
  obtain ⟨h1, h2, cur, h4, h5, h6, h7, h8⟩ := owned_parts h
  have hlt : g < w.heap.size := (ag0.1 h4).1
  have hle : R.length * k <= cap * k := Nat.mul_le_mul_right k h5
  have hsz : (putRowK en k (Sort.ahead w n) g 0 d).heap.size = w.heap.size := size_putRow _ _ _ _ _
  have hblk : (sortWorldK en k w g 0 n d os).heap[g]? = some (.cells (putCells id 0 (flatK en k d) cur) e (0, 0)) := by
    unfold sortWorldK
    rw [heap_grow_old _ _ (by rw [hsz]; exact hlt)]
    show ((Sort.ahead w n).heap.modify g _)[g]? = _
    rw [Array.getElem?_modify, if_pos rfl]
    show (w.heap[g]?).map _ = _
    rw [h4]; rfl
  constructor
  . refine ⟨by rw [flatMap_len hk]; simp [hs], Or.inr ⟨g, cap, _, rfl, h2, hblk, h5, h6, by simp [putCells, h7], ?_⟩⟩
    rw [<- flatK_toList hk d]
    have hF : (flatK en k d).size = R.length * k := by simp [hs]
    apply List.ext_getElem?
    intro j
    by_cases hj : j < R.length * k
    . rw [List.getElem?_take_of_lt hj, Array.getElem?_toList, Array.getElem?_toList]
      unfold putCells
      rw [Array.getElem?_mapIdx, Array.getElem?_eq_getElem (by omega), Array.getElem?_eq_getElem (by omega)]
      simp only [Option.map_some]
      rw [if_pos ⟨by omega, by omega⟩, Nat.sub_zero, getElem!_pos _ j (by omega)]; rfl
    . rw [List.getElem?_eq_none (by simp; omega), List.getElem?_eq_none (by simp [hs]; omega)]
  . refine ⟨rfl, rfl, rfl, ?_, ?_⟩
    . unfold sortWorldK; rw [size_grow, hsz]; omega
    . intro i hi hne
      have hne' : ¬ g = i := fun e => hne (by rw [e])
      unfold sortWorldK
      rw [heap_grow_old _ _ (by rw [hsz]; exact hi)]
      show ((Sort.ahead w n).heap.modify g _)[i]? = _
      rw [Array.getElem?_modify, if_neg hne']; rfl
end
end Go.Proofs.YtpeoonnglnchnaaGreatDoor
namespace Go.Proofs.YtpeoonnglnchnaaGreatDoor.Mut
open RowKit Go.Shelf Go.Sort YtpeoonnglnchnaaGreatDoor.Ord
variable [Inhabited Lim]
def laySort_ren:Go.Shelf.Ren:=⟨fun | 6=>79 | 15=>111 | 14=>110 | 28=>156 | 29=>157 | 20=>148 | 21=>149 | 22=>150 | 23=>151 | 24=>152 | 25=>153 | 26=>154 | 27=>155 | 46=>172 | 47=>173 | 48=>174 | 49=>175 | 50=>176 | 57=>180 | n=>n,fun | 22=>22 | 24=>42 | 25=>89 | 3=>3 | 39=>111 | 0=>0 | 53=>137 | 55=>166 | 4=>4 | 46=>159 | 45=>158 | 50=>140 | 5=>5 | 9=>9 | 66=>176 | 70=>180 | 76=>189 | 77=>190 | n=>n,fun | n=>n⟩
theorem laySort:Go.Proofs.SlLaysF0.n6 Tryz.prog laySort_ren:={
 mixed:=by kernel_rfl
 f6:=⟨Tryz.f79.name,by decide,Tryz.func79.trans (congrArg some (by kernel_rfl))⟩
 f14:=⟨Tryz.f110.name,by decide,Tryz.func110.trans (congrArg some (by kernel_rfl))⟩
 f15:=Tryz.func111.trans (congrArg some (by kernel_rfl))
 f20:=⟨Tryz.f148.name,by decide,Tryz.func148.trans (congrArg some (by kernel_rfl))⟩
 f21:=⟨Tryz.f149.name,by decide,Tryz.func149.trans (congrArg some (by kernel_rfl))⟩
 f22:=⟨Tryz.f150.name,by decide,Tryz.func150.trans (congrArg some (by kernel_rfl))⟩
 f23:=⟨Tryz.f151.name,by decide,Tryz.func151.trans (congrArg some (by kernel_rfl))⟩
 f24:=⟨Tryz.f152.name,by decide,Tryz.func152.trans (congrArg some (by kernel_rfl))⟩
 f25:=⟨Tryz.f153.name,by decide,Tryz.func153.trans (congrArg some (by kernel_rfl))⟩
 f26:=⟨Tryz.f154.name,by decide,Tryz.func154.trans (congrArg some (by kernel_rfl))⟩
 f27:=⟨Tryz.f155.name,by decide,Tryz.func155.trans (congrArg some (by kernel_rfl))⟩
 f28:=Tryz.func156.trans (congrArg some (by kernel_rfl))
 f29:=Tryz.func157.trans (congrArg some (by kernel_rfl))
 f46:=⟨Tryz.f172.name,by decide,Tryz.func172.trans (congrArg some (by kernel_rfl))⟩
 f47:=Tryz.func173.trans (congrArg some (by kernel_rfl))
 f48:=Tryz.func174.trans (congrArg some (by kernel_rfl))
 f49:=⟨Tryz.f175.name,by decide,Tryz.func175.trans (congrArg some (by kernel_rfl))⟩
 f50:=⟨Tryz.f176.name,by decide,Tryz.func176.trans (congrArg some (by kernel_rfl))⟩
 f57:=⟨Tryz.f180.name,by decide,Tryz.func180.trans (congrArg some (by kernel_rfl))⟩
 t0:=Tryz.underlying0
 a0:=Tryz.isAgg0
 z0:=Tryz.sizeOf0
 v0:=Tryz.zeroValue0
 t3:=Tryz.underlying3
 a3:=Tryz.isAgg3
 z3:=Tryz.sizeOf3
 v3:=Tryz.zeroValue3
 t4:=Tryz.underlying4
 a4:=Tryz.isAgg4
 z4:=Tryz.sizeOf4
 v4:=Tryz.zeroValue4
 t5:=Tryz.underlying5
 a5:=Tryz.isAgg5
 z5:=Tryz.sizeOf5
 v5:=Tryz.zeroValue5
 t9:=Tryz.underlying9
 a9:=Tryz.isAgg9
 z9:=Tryz.sizeOf9
 v9:=Tryz.zeroValue9
 t22:=Tryz.underlying22
 a22:=Tryz.isAgg22
 z22:=Tryz.sizeOf22
 v22:=Tryz.zeroValue22
 t25:=Tryz.underlying89
 a25:=Tryz.isAgg89
 z25:=Tryz.sizeOf89
 v25:=Tryz.zeroValue89
 t39:=Tryz.underlying111
 a39:=Tryz.isAgg111
 z39:=Tryz.sizeOf111
 v39:=Tryz.zeroValue111
 t45:=Tryz.underlying158
 a45:=Tryz.isAgg158
 z45:=Tryz.sizeOf158
 v45:=Tryz.zeroValue158
 t46:=Tryz.underlying159
 a46:=Tryz.isAgg159
 z46:=Tryz.sizeOf159
 v46:=Tryz.zeroValue159
 t50:=Tryz.underlying140
 a50:=Tryz.isAgg140
 z50:=Tryz.sizeOf140
 v50:=Tryz.zeroValue140
 t53:=Tryz.underlying137
 a53:=Tryz.isAgg137
 z53:=Tryz.sizeOf137
 v53:=Tryz.zeroValue137
 t55:=Tryz.underlying166
 a55:=Tryz.isAgg166
 z55:=Tryz.sizeOf166
 v55:=Tryz.zeroValue166
 t66:=Tryz.underlying176
 a66:=Tryz.isAgg176
 z66:=Tryz.sizeOf176
 v66:=Tryz.zeroValue176
 t70:=Tryz.underlying180
 a70:=Tryz.isAgg180
 z70:=Tryz.sizeOf180
 v70:=Tryz.zeroValue180
 t76:=Tryz.underlying189
 a76:=Tryz.isAgg189
 z76:=Tryz.sizeOf189
 v76:=Tryz.zeroValue189
 t77:=Tryz.underlying190
 a77:=Tryz.isAgg190
 z77:=Tryz.sizeOf190
 v77:=Tryz.zeroValue190 }
def Off (w:World) (row:Option Nat) (x:Ro):Prop:=∀ w',w.grownBy w' row->Over w' x
theorem Off.over {w:World} {row:Option Nat} {x:Ro} (h:Off w row x):Over w x:=h w ⟨rfl,rfl,rfl,Nat.le_refl _,fun _ _ _=>rfl⟩
theorem Off.old {w0 w:World} {row:Option Nat} {x:Ro} (h:Over w0 x) (hb:Below w0.heap.size w0 w) (hr:∀ k,row=some k->w0.heap.size<=k):Off w row x:=fun w' hg=>
 h.below ⟨hg.os.trans hb.os,hg.tape.trans hb.tape,hg.output.trans hb.output,Nat.le_trans hb.size hg.size,fun i hi=>(hg.block i (Nat.lt_of_lt_of_le hi hb.size) (fun e=>by have:=hr i e.symm;omega)).trans (hb.block i hi)⟩
def Okay (w:World) (row:Option Nat) (x:Ro):Prop:=Off w row x/\x.1.over.length<=1000000
abbrev SubR (w:World) (row:Option Nat):Type:={ x:Ro // Okay w row x }
instance (w:World) (row:Option Nat):Inhabited (SubR w row):=⟨⟨⟨⟨0,0,ByteArray.empty,ByteArray.empty,ByteArray.empty,0,⟨0,0,0⟩,[]⟩,.slice none 0 0⟩,fun _ _=>⟨Lst.nil _,ZN.none _ _⟩,by simp⟩⟩
def subs {w:World} {row:Option Nat}:(R:List Ro)->(∀ x∈R,Okay w row x)->List (SubR w row)
 | [],_=>[]
 | x::R,h=>⟨x,h x (by simp)⟩::subs R (fun y hy=>h y (List.mem_cons_of_mem _ hy))
theorem subs_val {w:World} {row:Option Nat}:∀ (R:List Ro) (h:∀ x∈R,Okay w row x),(subs R h).map (·.1)=R
 | [],_=>rfl
 | x::R,h=>by rw [subs,List.map_cons,subs_val R]
theorem map_flat {w:World} {row:Option Nat} (l:List (SubR w row)):(l.flatMap fun x=>enM x.1)=(l.map (·.1)).flatMap enM:=by
 induction l with
 | nil=>rfl
 | cons x l ih=>rw [List.flatMap_cons,List.map_cons,List.flatMap_cons,ih]
theorem subO (w:World) (row:Option Nat):SWO (ltOf fun x y:SubR w row=>muC x.1.1 y.1.1) where
 irrefl x:=by
  show decide (muC x.1.1 x.1.1<0)=false
  rw [muO.self];rfl
 trans x y z h1 h2:=by
  unfold ltOf at *
  simp only [decide_eq_true_eq] at *
  exact muO.trans _ _ _ h1 h2
 ntrans x y z h1 h2:=by
  unfold ltOf at *
  simp only [decide_eq_false_iff_not] at *
  have h1':=muO.le_of.1 h1
  have h2':=muO.le_of.1 h2
  exact muO.le_of.2 (muO.le_le h2' h1')
def SortP (base:Nat) (w:World) (v:Value) (R:List Ro) (e:Ending) (w':World):Prop:=
 e=.returned (.tuple #[])/\∃ R':List Ro,R'.Perm R/\R'.Pairwise (fun a b=>muC a.1 b.1<=0)/\w'.ownsRow base 42 10 v R'.length (R'.flatMap enM)/\w.grownBy w' v.ownBlock
theorem compare_enters:∀ args w,(callFunc 108 args).run Tryz.prog w=.ok (.enter 108 args) w:=enters_of Tryz.func108 (by kernel_rfl) rfl
theorem sort_some (base g cap:Nat) (R:List Ro) (w:World) (hown:w.ownsRow base 42 10 (.slice (some ⟨g,0,none⟩) R.length cap) R.length (R.flatMap enM)) (hoff:∀ x∈R,Okay w (some g) x) (hn:R.length<=1000000) :
  Calls Tryz.prog 79 #[.slice (some ⟨g,0,none⟩) R.length cap,.func (.func 108) #[] #[]] w (SortP base w (.slice (some ⟨g,0,none⟩) R.length cap) R):=by
 obtain⟨L,hL⟩:∃ L:List (SubR w (some g)),L.map (·.1)=R:=⟨subs R hoff,subs_val R hoff⟩
 subst hL
 have hlen:(L.map (·.1)).length=L.length:=by simp
 rw [hlen] at hown hn ⊢
 rw [<-map_flat] at hown
 have hk:∀ x:SubR w (some g),(enM x.1).length=10:=fun _=>rfl
 have h1:∀ x:SubR w (some g),∀ v∈enM x.1,v.oneCell'=true:=fun x v hv=>by
  obtain⟨ao,c,e,-,-⟩:=x.2.1.over.form
  unfold enM at hv
  rw [e] at hv
  simp at hv
  rcases hv with rfl | rfl | rfl | rfl | rfl | rfl | rfl | rfl | rfl | rfl <;> rfl
 obtain⟨-,-,cur,h4,-,-,-,-⟩:=owned_parts hown
 have hlt:g<w.heap.size:=(ag0.1 h4).1
 have hC:CmpLays Tryz.prog 108 #[] (fun x:SubR w (some g)=>enM x.1) 10 (fun x y=>muC x.1.1 y.1.1) g 0 L.toArray.size w:=fun m os dk hdk x y=>by
  have hg:=(owned_put (cap:=cap) hk hown dk (by simpa using hdk) m os).2
  have:=compare_any x.1 y.1 (sortWorldK (fun x:SubR w (some g)=>enM x.1) 10 w g 0 m dk os) (x.2.1 _ hg) (y.2.1 _ hg) x.2.2 y.2.2
  rw [vM_eq,vM_eq] at this
  exact this
 have hcon:=AnyQ.slices_SortFunc laySort 10 (fun w=>Tryz.isAgg42 w) (fun w=>Tryz.sizeOf42 w) (fun x:SubR w (some g)=>enM x.1) hk h1 (fun x y=>muC x.1.1 y.1.1) (subO w (some g)) 108 #[] g 0 cap L.toArray w compare_enters hC (holds_owned hk hown) hlt (by simp;omega)
 have e0:L.toArray.size=L.length:=by simp
 rw [e0] at hcon
 refine hcon.mono ?_
 rintro e w' ⟨rfl,d',n,os,hp,hs,rfl⟩
 have hds:d'.size=L.length:=by have:=hp.1;simpa using this
 have hq:=owned_put (cap:=cap) hk hown d' hds n os
 have hdl:d'.toList.length=L.length:=by simpa using hds
 refine⟨rfl,d'.toList.map (·.1),?_,?_,?_,hq.2⟩
 ·
  have h:=hp.2.2
  have x1:(d'.extract 0 L.length).toList=d'.toList:=by rw [<-hds];simp
  have x2:(L.toArray.extract 0 L.length).toList=L:=by simp
  rw [x1,x2] at h
  exact h.map _
 ·
  rw [List.pairwise_map,List.pairwise_iff_getElem]
  intro i j hi hj hij
  have h:=hs i j (Nat.zero_le _) hij (by simpa [hds] using hj)
  rw [getElem!_pos d' i (by simpa using hi),getElem!_pos d' j (by simpa using hj)] at h
  unfold ltOf at h
  simp only [decide_eq_false_iff_not] at h
  exact muO.le_of.1 h
 ·
  rw [<-map_flat]
  have:=hq.1
  rw [show (d'.toList.map (·.1)).length=L.length by simp [hds]]
  exact this
