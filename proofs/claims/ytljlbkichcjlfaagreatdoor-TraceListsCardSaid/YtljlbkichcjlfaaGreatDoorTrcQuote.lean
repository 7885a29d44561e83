/- Layer 30 (trace): nums.Stamp, runes.escaped, runes.Quote. PRINTED by wip/gentrc.py. -/
import Derived.Test.YtljlbkichcjlfaaGreatDoorTrcText
import Derived.Test.YtljlbkichcjlfaaGreatDoorMutRights
import Derived.Laws.Cover4
set_option linter.unusedSimpArgs false
set_option linter.unusedVariables false
namespace Go.Proofs.YtljlbkichcjlfaaGreatDoor.Trc
open Go.RowKit Go.Proofs.YtljlbkichcjlfaaGreatDoor.RegInv Go.Proofs.YtljlbkichcjlfaaGreatDoor.Mut
set_option linter.unusedSectionVars false
variable [Inhabited Lim]

structure S3 (w : World) (k : Nat) (s : Stp) : Prop where
  lt : k < w.heap.size
  c0 : w.cell? ⟨k, 0, none⟩ = some (.int .i64 s.p)
  c1 : w.cell? ⟨k, 1, none⟩ = some (.int .i64 s.l)
  c2 : w.cell? ⟨k, 2, none⟩ = some (.int .i64 s.w)
theorem S3.new (w : World) (s : Stp) : S3 (w.alloc (.cells #[.int .i64 s.p, .int .i64 s.l, .int .i64 s.w] 29)) w.heap.size s :=
  ⟨by simp, by go_simp, by go_simp, by go_simp⟩
theorem S3.below {w w' : World} {k : Nat} {s : Stp} (h : S3 w k s) (hb : RowKit.Below w.heap.size w w') : S3 w' k s := by
  have e : ∀ o, w'.cell? ⟨k, o, none⟩ = w.cell? ⟨k, o, none⟩ := fun o => hb.cell (p := ⟨k, o, none⟩) h.lt
  obtain ⟨h0, h1, h2, h3⟩ := h
  exact ⟨Nat.lt_of_lt_of_le h0 hb.size, (e _).trans h1, (e _).trans h2, (e _).trans h3⟩
def dotF : ByteArray := ⟨#[46]⟩
def stampF (s : Stp) : ByteArray := (((((textF s.p) ++ dotF) ++ (textF s.l)) ++ dotF) ++ (textF s.w))
theorem stampF_size (s : Stp) : (stampF s).size ≤ 62 := by
  unfold stampF dotF
  have h1 := textF_size s.p
  have h2 := textF_size s.l
  have h3 := textF_size s.w
  simp only [ByteArray.size_append]
  have : (⟨#[46]⟩ : ByteArray).size = 1 := rfl
  omega

set_option maxRecDepth 100000 in
set_option maxHeartbeats 4000000 in
theorem stamp_any (s : Stp) (w : World) : Calls Tryz.prog 23 #[vS s] w fun e w' => e = .returned (.string (stampF s)) ∧ Below w.heap.size w w' := by
  obtain ⟨W0, hW0⟩ : ∃ W0, W0 = w.alloc (.cells #[.int .i64 s.p, .int .i64 s.l, .int .i64 s.w] 29) := ⟨_, rfl⟩
  have HB0 := Lib.hid (show RowKit.Below w.heap.size w W0 by rw [hW0]; exact (Below.refl _ w).alloc (Nat.le_refl _) _)
  have HS := Lib.hid (show S3 W0 w.heap.size s by rw [hW0]; exact S3.new w s)
  have HW := Lib.hid hW0
  have z1 := textF_size s.p
  have z2 := textF_size s.l
  have z3 := textF_size s.w
  have hd : dotF.size = 1 := rfl
  have k1 : ((textF s.p) ++ dotF).size ≤ 21 := by rw [ByteArray.size_append]; omega
  have k2 : (((textF s.p) ++ dotF) ++ (textF s.l)).size ≤ 41 := by rw [ByteArray.size_append]; omega
  have k3 : ((((textF s.p) ++ dotF) ++ (textF s.l)) ++ dotF).size ≤ 42 := by rw [ByteArray.size_append]; omega
  clear hW0
  unfold vS
  go_enter Tryz.func23, Tryz.ntmps23
  go_upto_region 1 with fail
  rw [← HW.out]
  refine wp_region_told [] 13 [false, false, false, true, true, true, true, true, true, true, true, true, true, true, true, true]
    [sLit (.pointer (some ⟨w.heap.size, 0, none⟩)),
    sLit (.int .i64 s.p),
    sLit (.string (textF s.p)),
    sLit (.string ((textF s.p) ++ dotF)),
    sLit (.pointer (some ⟨w.heap.size, 1, none⟩)),
    sLit (.int .i64 s.l),
    sLit (.string (textF s.l)),
    sLit (.string (((textF s.p) ++ dotF) ++ (textF s.l))),
    sLit (.string ((((textF s.p) ++ dotF) ++ (textF s.l)) ++ dotF)),
    sLit (.pointer (some ⟨w.heap.size, 2, none⟩)),
    sLit (.int .i64 s.w),
    sLit (.string (textF s.w)),
    sLit (.string (((((textF s.p) ++ dotF) ++ (textF s.l)) ++ dotF) ++ (textF s.w)))] (by kernel_rfl) (by kernel_rfl) (by kernel_rfl) (fun F hF => ?_)
  simp only [over, overL, Nat.reduceAdd] at hF
  obtain rfl := funext hF
  clear hF
  refine ⟨⟨?_, ?_, ?_, ?_, ?_, ?_, ?_, ?_, ?_, ?_, ?_, ?_, ?_, trivial⟩, ?_⟩
  · intro V W hb hd K hK _
    clear hd
    go_wp2_with fail
    refine hK _ _ ?_ ?_ ?_ ?_
    · rfl
    · exact Below.refl _ _
    · exact rfl
    · trivial
  · intro V W hb hd K hK _
    have h0 : (V 3) = .pointer (some ⟨w.heap.size, 0, none⟩) := hd 0 (by kernel_rfl)
    clear hd
    obtain ⟨-, s0, s1, s2⟩ := HS.out.below hb
    go_wp2_with fail
    refine hK _ _ ?_ ?_ ?_ ?_
    · rfl
    · exact Below.refl _ _
    · exact rfl
    · trivial
  · intro V W hb hd K hK _
    have h1 : (V 4) = .int .i64 s.p := hd 1 (by kernel_rfl)
    clear hd
    go_wp2_with fail
    refine (text_any s.p W).mono ?_
    rintro e w1 ⟨rfl, hb1⟩
    go_wp2_with fail
    refine hK _ _ ?_ ?_ ?_ ?_
    · rfl
    · exact hb1
    · exact rfl
    · trivial
  · intro V W hb hd K hK _
    have h2 : (V 5) = .string (textF s.p) := hd 2 (by kernel_rfl)
    clear hd
    go_wp2_with fail
    refine hK _ _ ?_ ?_ ?_ ?_
    · rfl
    · exact Below.refl _ _
    · exact rfl
    · trivial
  · intro V W hb hd K hK _
    clear hd
    go_wp2_with fail
    refine hK _ _ ?_ ?_ ?_ ?_
    · rfl
    · exact Below.refl _ _
    · exact rfl
    · trivial
  · intro V W hb hd K hK _
    have h4 : (V 7) = .pointer (some ⟨w.heap.size, 1, none⟩) := hd 4 (by kernel_rfl)
    clear hd
    obtain ⟨-, s0, s1, s2⟩ := HS.out.below hb
    go_wp2_with fail
    refine hK _ _ ?_ ?_ ?_ ?_
    · rfl
    · exact Below.refl _ _
    · exact rfl
    · trivial
  · intro V W hb hd K hK _
    have h5 : (V 8) = .int .i64 s.l := hd 5 (by kernel_rfl)
    clear hd
    go_wp2_with fail
    refine (text_any s.l W).mono ?_
    rintro e w1 ⟨rfl, hb1⟩
    go_wp2_with fail
    refine hK _ _ ?_ ?_ ?_ ?_
    · rfl
    · exact hb1
    · exact rfl
    · trivial
  · intro V W hb hd K hK _
    have h3 : (V 6) = .string ((textF s.p) ++ dotF) := hd 3 (by kernel_rfl)
    have h6 : (V 9) = .string (textF s.l) := hd 6 (by kernel_rfl)
    clear hd
    go_wp2_with fail
    refine hK _ _ ?_ ?_ ?_ ?_
    · rfl
    · exact Below.refl _ _
    · exact rfl
    · trivial
  · intro V W hb hd K hK _
    have h7 : (V 10) = .string (((textF s.p) ++ dotF) ++ (textF s.l)) := hd 7 (by kernel_rfl)
    clear hd
    go_wp2_with fail
    refine hK _ _ ?_ ?_ ?_ ?_
    · rfl
    · exact Below.refl _ _
    · exact rfl
    · trivial
  · intro V W hb hd K hK _
    clear hd
    go_wp2_with fail
    refine hK _ _ ?_ ?_ ?_ ?_
    · rfl
    · exact Below.refl _ _
    · exact rfl
    · trivial
  · intro V W hb hd K hK _
    have h9 : (V 12) = .pointer (some ⟨w.heap.size, 2, none⟩) := hd 9 (by kernel_rfl)
    clear hd
    obtain ⟨-, s0, s1, s2⟩ := HS.out.below hb
    go_wp2_with fail
    refine hK _ _ ?_ ?_ ?_ ?_
    · rfl
    · exact Below.refl _ _
    · exact rfl
    · trivial
  · intro V W hb hd K hK _
    have h10 : (V 13) = .int .i64 s.w := hd 10 (by kernel_rfl)
    clear hd
    go_wp2_with fail
    refine (text_any s.w W).mono ?_
    rintro e w1 ⟨rfl, hb1⟩
    go_wp2_with fail
    refine hK _ _ ?_ ?_ ?_ ?_
    · rfl
    · exact hb1
    · exact rfl
    · trivial
  · intro V W hb hd K hK _
    have h8 : (V 11) = .string ((((textF s.p) ++ dotF) ++ (textF s.l)) ++ dotF) := hd 8 (by kernel_rfl)
    have h11 : (V 14) = .string (textF s.w) := hd 11 (by kernel_rfl)
    clear hd
    go_wp2_with fail
    refine hK _ _ ?_ ?_ ?_ ?_
    · rfl
    · exact Below.refl _ _
    · exact rfl
    · trivial
  · intro V W hb hd hap
    have h12 : (V 15) = .string (((((textF s.p) ++ dotF) ++ (textF s.l)) ++ dotF) ++ (textF s.w)) := hd 12 (by decide)
    clear hd hap
    simp only [List.drop_succ_cons, List.drop_zero]
    have HB := Lib.hid (below_then HB0.out (Nat.le_refl _) hb)
    clear hb
    go_wp2_with fail
    go_ret
    exact ⟨rfl, HB.out⟩

def figF : ByteArray := (⟨#[48, 49, 50, 51, 52, 53, 54, 55, 56, 57, 97, 98, 99, 100, 101, 102]⟩ : ByteArray)
def escF (b : Nat) : ByteArray := ⟨#[92, 120]⟩ ++ (figF.extract (b / 16) (b / 16 + 1)) ++ (figF.extract (b % 16) (b % 16 + 1))

set_option maxRecDepth 100000 in
set_option maxHeartbeats 4000000 in
theorem esc_any (b : Nat) (w : World) (hb : b < 256) : Calls Tryz.prog 40 #[.int .u8 b] w fun e w' => e = .returned (.string (escF b)) ∧ Below w.heap.size w w' := by
  go_enter Tryz.func40, Tryz.ntmps40
  go_upto_region 1 with fail
  refine wp_region_told [] 14 [false, false, false, true, true, true, true, true, true, true, true, true, true, true, true, true, true]
    [sLit (.int .u8 (b : Int)),
    sLit (.int .u8 ((b / 16 : Nat) : Int)),
    sLit (.int .u8 (b : Int)),
    sLit (.int .u8 ((b / 16 : Nat) : Int)),
    sLit (.int .u8 ((b / 16 + 1 : Nat) : Int)),
    sLit (.string (figF.extract (b / 16) (b / 16 + 1))),
    sLit (.string (⟨#[92, 120]⟩ ++ (figF.extract (b / 16) (b / 16 + 1)))),
    sLit (.int .u8 (b : Int)),
    sLit (.int .u8 ((b % 16 : Nat) : Int)),
    sLit (.int .u8 (b : Int)),
    sLit (.int .u8 ((b % 16 : Nat) : Int)),
    sLit (.int .u8 ((b % 16 + 1 : Nat) : Int)),
    sLit (.string (figF.extract (b % 16) (b % 16 + 1))),
    sLit (.string (⟨#[92, 120]⟩ ++ (figF.extract (b / 16) (b / 16 + 1)) ++ (figF.extract (b % 16) (b % 16 + 1))))] (by kernel_rfl) (by kernel_rfl) (by kernel_rfl) (fun F hF => ?_)
  simp only [over, overL, Nat.reduceAdd] at hF
  obtain rfl := funext hF
  clear hF
  refine ⟨⟨?_, ?_, ?_, ?_, ?_, ?_, ?_, ?_, ?_, ?_, ?_, ?_, ?_, ?_, trivial⟩, ?_⟩
  · intro V W hb hd K hK _
    clear hd
    go_wp2_with fail
    refine hK _ _ ?_ ?_ ?_ ?_
    · rfl
    · exact Below.refl _ _
    · exact rfl
    · trivial
  · intro V W hb hd K hK _
    have h0 : (V 3) = .int .u8 (b : Int) := hd 0 (by kernel_rfl)
    clear hd
    go_wp2_with fail
    refine hK _ _ ?_ ?_ ?_ ?_
    · rfl
    · exact Below.refl _ _
    · show _ = _; rfl
    · trivial
  · intro V W hb hd K hK _
    clear hd
    go_wp2_with fail
    refine hK _ _ ?_ ?_ ?_ ?_
    · rfl
    · exact Below.refl _ _
    · exact rfl
    · trivial
  · intro V W hb hd K hK _
    have h2 : (V 5) = .int .u8 (b : Int) := hd 2 (by kernel_rfl)
    clear hd
    go_wp2_with fail
    refine hK _ _ ?_ ?_ ?_ ?_
    · rfl
    · exact Below.refl _ _
    · show _ = _; rfl
    · trivial
  · intro V W hb hd K hK _
    have h3 : (V 6) = .int .u8 ((b / 16 : Nat) : Int) := hd 3 (by kernel_rfl)
    clear hd
    go_wp2_with fail
    refine hK _ _ ?_ ?_ ?_ ?_
    · rfl
    · exact Below.refl _ _
    · show _ = _; rfl
    · trivial
  · intro V W hb hd K hK _
    have h1 : (V 4) = .int .u8 ((b / 16 : Nat) : Int) := hd 1 (by kernel_rfl)
    have h4 : (V 7) = .int .u8 ((b / 16 + 1 : Nat) : Int) := hd 4 (by kernel_rfl)
    clear hd
    go_wp2_with fail
    refine hK _ _ ?_ ?_ ?_ ?_
    · rfl
    · exact Below.refl _ _
    · show _ = _; rfl
    · trivial
  · intro V W hb hd K hK _
    have h5 : (V 8) = .string (figF.extract (b / 16) (b / 16 + 1)) := hd 5 (by kernel_rfl)
    clear hd
    go_wp2_with fail
    refine hK _ _ ?_ ?_ ?_ ?_
    · rfl
    · exact Below.refl _ _
    · show _ = _; rfl
    · trivial
  · intro V W hb hd K hK _
    clear hd
    go_wp2_with fail
    refine hK _ _ ?_ ?_ ?_ ?_
    · rfl
    · exact Below.refl _ _
    · exact rfl
    · trivial
  · intro V W hb hd K hK _
    have h7 : (V 10) = .int .u8 (b : Int) := hd 7 (by kernel_rfl)
    clear hd
    go_wp2_with fail
    refine hK _ _ ?_ ?_ ?_ ?_
    · rfl
    · exact Below.refl _ _
    · show _ = _; rfl
    · trivial
  · intro V W hb hd K hK _
    clear hd
    go_wp2_with fail
    refine hK _ _ ?_ ?_ ?_ ?_
    · rfl
    · exact Below.refl _ _
    · exact rfl
    · trivial
  · intro V W hb hd K hK _
    have h9 : (V 12) = .int .u8 (b : Int) := hd 9 (by kernel_rfl)
    clear hd
    go_wp2_with fail
    refine hK _ _ ?_ ?_ ?_ ?_
    · rfl
    · exact Below.refl _ _
    · show _ = _; rfl
    · trivial
  · intro V W hb hd K hK _
    have h10 : (V 13) = .int .u8 ((b % 16 : Nat) : Int) := hd 10 (by kernel_rfl)
    clear hd
    go_wp2_with fail
    refine hK _ _ ?_ ?_ ?_ ?_
    · rfl
    · exact Below.refl _ _
    · show _ = _; rfl
    · trivial
  · intro V W hb hd K hK _
    have h8 : (V 11) = .int .u8 ((b % 16 : Nat) : Int) := hd 8 (by kernel_rfl)
    have h11 : (V 14) = .int .u8 ((b % 16 + 1 : Nat) : Int) := hd 11 (by kernel_rfl)
    clear hd
    go_wp2_with fail
    refine hK _ _ ?_ ?_ ?_ ?_
    · rfl
    · exact Below.refl _ _
    · show _ = _; rfl
    · trivial
  · intro V W hb hd K hK _
    have h6 : (V 9) = .string (⟨#[92, 120]⟩ ++ (figF.extract (b / 16) (b / 16 + 1))) := hd 6 (by kernel_rfl)
    have h12 : (V 15) = .string (figF.extract (b % 16) (b % 16 + 1)) := hd 12 (by kernel_rfl)
    clear hd
    go_wp2_with fail
    refine hK _ _ ?_ ?_ ?_ ?_
    · rfl
    · exact Below.refl _ _
    · show _ = _; rfl
    · trivial
  · intro V W hb hd hap
    have h13 : (V 16) = .string (⟨#[92, 120]⟩ ++ (figF.extract (b / 16) (b / 16 + 1)) ++ (figF.extract (b % 16) (b % 16 + 1))) := hd 13 (by decide)
    clear hd hap
    simp only [List.drop_succ_cons, List.drop_zero]
    have HB := Lib.hid hb
    clear hb
    go_wp2_with fail
    go_ret
    exact ⟨rfl, HB.out⟩

theorem escF_size (b : Nat) : (escF b).size ≤ 4 := by
  unfold escF
  simp only [ByteArray.size_append, ByteArray.size_extract]
  have : (⟨#[92, 120]⟩ : ByteArray).size = 2 := rfl
  omega
/-- A rune as a text. -/
def enc1 (r : Int) : ByteArray := Utf8.encode r
theorem run_enc1 (r : Int) (W : World) : (convert 21 9 (.int .i32 r)).run Tryz.prog W = .ok (.string (enc1 r)) W := by
  simp only [convert, Sem.run_bind, run_underlying Tryz.underlying21, run_underlying Tryz.underlying9, Result.andThen_ok]
  rfl
theorem enc1_size (r : Int) : (enc1 r).size ≤ 4 := encode_size_le r
attribute [irreducible] enc1
/-- A text's byte. -/
def byteN (s : ByteArray) (pos : Nat) : Nat := if h : pos < s.size then (s[pos]'h).toNat else 0
theorem byteN_lt (s : ByteArray) (pos : Nat) : byteN s pos < 256 := by
  unfold byteN
  split
  · exact UInt8.toNat_lt _
  · omega
theorem byteN_at (s : ByteArray) (pos : Nat) (h : pos < s.size) (W : World) : (Instr.index 9 (.string s) (.int .i64 pos)).run Tryz.prog W = .ok (.int .u8 (byteN s pos : Nat)) W := by
  rw [run_index_string W 9 s .i64 pos Tryz.underlying9, dif_pos (by omega)]
  unfold byteN
  rw [dif_pos h]
  simp
/-- What comes of one rune. -/
def oneF (s : ByteArray) (pos : Nat) (r : Int) : ByteArray :=
  if badF s pos r || (decide (r < 32) || decide (r = 127)) then escF (byteN s pos)
  else if decide (r = 34) || decide (r = 92) then ⟨#[92]⟩ ++ enc1 r
  else enc1 r
theorem oneF_size (s : ByteArray) (pos : Nat) (r : Int) : (oneF s pos r).size ≤ 5 := by
  unfold oneF
  have h1 := escF_size (byteN s pos)
  have h2 := enc1_size r
  split
  · omega
  · split
    · rw [ByteArray.size_append]
      have : (⟨#[92]⟩ : ByteArray).size = 1 := rfl
      omega
    · omega
def quoteFrom (s : ByteArray) : Nat → Nat → ByteArray → ByteArray
  | 0, _, acc => acc
  | f + 1, pos, acc => if pos < s.size then quoteFrom s f (pos + (Utf8.decode s pos).2) (acc ++ oneF s pos (Utf8.decode s pos).1) else acc
def quoteF (s : ByteArray) : ByteArray := quoteFrom s s.size 0 ⟨#[34]⟩ ++ ⟨#[34]⟩
theorem quoteFrom_step (s : ByteArray) (f : Nat) {pos : Nat} (acc : ByteArray) (h : pos < s.size) : quoteFrom s (f + 1) pos acc = quoteFrom s f (pos + (Utf8.decode s pos).2) (acc ++ oneF s pos (Utf8.decode s pos).1) := by rw [quoteFrom, if_pos h]
theorem quoteFrom_end (s : ByteArray) (f : Nat) {pos : Nat} (acc : ByteArray) (h : ¬ pos < s.size) : quoteFrom s f pos acc = acc := by
  cases f with
  | zero => rfl
  | succ f => rw [quoteFrom, if_neg h]
theorem quoteFrom_size (s : ByteArray) : ∀ (f pos : Nat) (acc : ByteArray), (quoteFrom s f pos acc).size ≤ acc.size + 5 * f
  | 0, _, _ => by simp [quoteFrom]
  | f + 1, pos, acc => by
    unfold quoteFrom
    split
    · have h1 := quoteFrom_size s f (pos + (Utf8.decode s pos).2) (acc ++ oneF s pos (Utf8.decode s pos).1)
      have h2 := oneF_size s pos (Utf8.decode s pos).1
      rw [ByteArray.size_append] at h1
      omega
    · omega
theorem quoteF_size (s : ByteArray) : (quoteF s).size ≤ 5 * s.size + 2 := by
  unfold quoteF
  rw [ByteArray.size_append]
  have h := quoteFrom_size s s.size 0 ⟨#[34]⟩
  have : (⟨#[34]⟩ : ByteArray).size = 1 := rfl
  omega

set_option maxHeartbeats 1000000 in
set_option maxRecDepth 100000 in
theorem quote_any (s : ByteArray) (w : World) (hT : Tabs w) (hs : s.size ≤ 1000000) : Calls Tryz.prog 25 #[.string s] w fun e w' => e = .returned (.string (quoteF s)) ∧ RowKit.Below w.heap.size w w' := by
  have HT := Lib.hid hT
  clear hT
  go_enter Tryz.func25, Tryz.ntmps25
  go_wp2_with fail
  go_loopw [3] (fun ov wr => ∃ (pos fuel : Nat) (acc : ByteArray), ov = .string acc ∧ wr.heap[w.heap.size]? = some (.stringIter s pos) ∧ Hid (Below w.heap.size w wr) ∧
    Hid (quoteFrom s fuel pos acc = quoteFrom s s.size 0 ⟨#[34]⟩) ∧ s.size ≤ pos + fuel ∧ acc.size + 5 * fuel ≤ 5 * s.size + 1) (fun _ wr => s.size - wr.iterPos w.heap.size)
  case atStart => exact ⟨0, s.size, _, rfl, World.iter_heap w s 0, Lib.hid ((Below.refl _ _).alloc (Nat.le_refl _) _), Lib.hid rfl, by omega, by show 1 + 5 * s.size ≤ _; omega⟩
  case round =>
    obtain ⟨pos, fuel, acc, rfl, hit, hB, hL, hf, ha⟩ := hrel
    have hpos0 := iter_pos hit
    by_cases hp : pos < s.size
    · have hnx : ∀ ty, (Instr.next (.pointer (some ⟨w.heap.size, 0, none⟩)) true ty).run Tryz.prog wr = _ := fun ty => Lib.run_next_any_at wr w.heap.size s pos ty hit hp
      have hwd := width_pos s pos hp
      obtain ⟨fuel, rfl⟩ : ∃ f', fuel = f' + 1 := ⟨fuel - 1, by omega⟩
      have hst := quoteFrom_step s fuel acc hp
      obtain ⟨W1, hW1⟩ : ∃ W1, W1 = wr.iterAt w.heap.size s (pos + (Utf8.decode s pos).2) := ⟨_, rfl⟩
      have hit2 : W1.heap[w.heap.size]? = some (.stringIter s (pos + (Utf8.decode s pos).2)) := by rw [hW1]; exact Lib.iterAt_heap wr w.heap.size s pos _ hit
      have hB1 : Below w.heap.size w W1 := by rw [hW1]; exact Lib.below_iterAt hB.out (Nat.le_refl _) s _
      rw [← hW1] at hnx
      rw [hst] at hL
      have hlt2 : pos < pos + (Utf8.decode s pos).2 := by omega
      generalize (Utf8.decode s pos).1 = r at *
      generalize pos + (Utf8.decode s pos).2 = pos2 at *
      have HI2 := Lib.hid hit2
      have HB1 := Lib.hid hB1
      have HP0 := Lib.hid hpos0
      have HL := Lib.hid hL.out
      have BC := Lib.hid (bad_any s pos r W1 (HT.out.below hB1) (by omega) hs)
      have hbn : byteN s pos < 256 := byteN_lt s pos
      have hix := byteN_at s pos hp
      have h1s := oneF_size s pos r
      have hes := escF_size (byteN s pos)
      have hen := enc1_size r
      have hcv := fun W => run_enc1 r W
      have HES := Lib.hid (fun W => esc_any (byteN s pos) W hbn)
      have hone : oneF s pos r = if badF s pos r || (decide ((r : Int) < 32) || decide ((r : Int) = 127)) then escF (byteN s pos) else if decide ((r : Int) = 34) || decide ((r : Int) = 92) then ⟨#[92]⟩ ++ enc1 r else enc1 r := rfl
      generalize byteN s pos = bn at *
      generalize oneF s pos r = on at *
      cases hb : badF s pos r
      · rw [hb] at BC
        by_cases h32 : (r : Int) < 32
        · rw [hb, decide_eq_true h32] at hone
          simp only [Bool.false_or, Bool.true_or, Bool.or_true, Bool.or_false, if_true, if_false, Bool.false_eq_true] at hone
          subst hone
          have n32 : decide ((r : Int) < 32) = true := decide_eq_true h32
          clear hW1 hit hB hL hit2 hB1 hst hwd hpos0 hb
          go_wp2_with fail
          refine BC.out.mono ?_
          rintro en w2 ⟨rfl, hb2⟩
          go_wp2_with fail
          refine (HES.out w2).mono ?_
          rintro en w3 ⟨rfl, hb3⟩
          have HI3 := Lib.hid (show w3.heap[w.heap.size]? = some (.stringIter s pos2) from by
            rw [← HI2.out]; exact (hb2.trans (hb3.mono hb2.size)).block _ (Array.getElem?_eq_some_iff.1 HI2.out).1)
          have HB3 := Lib.hid (below_then (below_then HB1.out (Nat.le_refl _) hb2) (Nat.le_refl _) hb3)
          clear hb2 hb3
          go_wp2_with fail
          go_roundw
          case rel => exact ⟨pos2, fuel, _, rfl, HI3.out, HB3, HL, by omega, by rw [ByteArray.size_append]; omega⟩
          case measure => rw [iter_pos HI3.out, HP0.out]; omega
        · by_cases h127 : (r : Int) = 127
          · rw [hb, decide_eq_false h32, decide_eq_true h127] at hone
            simp only [Bool.false_or, Bool.true_or, Bool.or_true, Bool.or_false, if_true, if_false, Bool.false_eq_true] at hone
            subst hone
            have n32 : decide ((r : Int) < 32) = false := decide_eq_false h32
            clear h32
            have q1 : decide ((r : Int) = 127) = true := decide_eq_true h127
            have q2 : ((r : Int) == 127) = true := by simpa using h127
            clear h127
            clear hW1 hit hB hL hit2 hB1 hst hwd hpos0 hb
            go_wp2_with fail
            refine BC.out.mono ?_
            rintro en w2 ⟨rfl, hb2⟩
            go_wp2_with fail
            refine (HES.out w2).mono ?_
            rintro en w3 ⟨rfl, hb3⟩
            have HI3 := Lib.hid (show w3.heap[w.heap.size]? = some (.stringIter s pos2) from by
              rw [← HI2.out]; exact (hb2.trans (hb3.mono hb2.size)).block _ (Array.getElem?_eq_some_iff.1 HI2.out).1)
            have HB3 := Lib.hid (below_then (below_then HB1.out (Nat.le_refl _) hb2) (Nat.le_refl _) hb3)
            clear hb2 hb3
            go_wp2_with fail
            go_roundw
            case rel => exact ⟨pos2, fuel, _, rfl, HI3.out, HB3, HL, by omega, by rw [ByteArray.size_append]; omega⟩
            case measure => rw [iter_pos HI3.out, HP0.out]; omega
          · by_cases h34 : (r : Int) = 34
            · rw [hb, decide_eq_false h32, decide_eq_false h127, decide_eq_true h34] at hone
              simp only [Bool.false_or, Bool.true_or, Bool.or_true, Bool.or_false, if_true, if_false, Bool.false_eq_true] at hone
              subst hone
              have n32 : decide ((r : Int) < 32) = false := decide_eq_false h32
              have n127 : ((r : Int) == 127) = false := by rw [beq_eq_false_iff_ne]; exact h127
              clear h32 h127
              have q1 : decide ((r : Int) = 34) = true := decide_eq_true h34
              have q2 : ((r : Int) == 34) = true := by simpa using h34
              clear h34
              clear hW1 hit hB hL hit2 hB1 hst hwd hpos0 hb
              have hcs : ((⟨#[92]⟩ : ByteArray) ++ enc1 r).size ≤ 5 := by rw [ByteArray.size_append]; have : (⟨#[92]⟩ : ByteArray).size = 1 := rfl; omega
              go_wp2_with fail
              refine BC.out.mono ?_
              rintro en w3 ⟨rfl, hb3⟩
              have HI3 := Lib.hid (show w3.heap[w.heap.size]? = some (.stringIter s pos2) from by
                rw [← HI2.out]; exact hb3.block _ (Array.getElem?_eq_some_iff.1 HI2.out).1)
              have HB3 := Lib.hid (below_then HB1.out (Nat.le_refl _) hb3)
              clear hb3
              go_wp2_with fail
              go_roundw
              case rel => exact ⟨pos2, fuel, _, rfl, HI3.out, HB3, HL, by omega, by rw [ByteArray.size_append]; omega⟩
              case measure => rw [iter_pos HI3.out, HP0.out]; omega
            · by_cases h92 : (r : Int) = 92
              · rw [hb, decide_eq_false h32, decide_eq_false h127, decide_eq_true h92]  at hone
                simp only [Bool.false_or, Bool.true_or, Bool.or_true, Bool.or_false, if_true, if_false, Bool.false_eq_true] at hone
                subst hone
                have n32 : decide ((r : Int) < 32) = false := decide_eq_false h32
                have n127 : ((r : Int) == 127) = false := by rw [beq_eq_false_iff_ne]; exact h127
                have n34 : ((r : Int) == 34) = false := by rw [beq_eq_false_iff_ne]; exact h34
                clear h32 h127 h34
                have q1 : decide ((r : Int) = 92) = true := decide_eq_true h92
                have q2 : ((r : Int) == 92) = true := by simpa using h92
                clear h92
                clear hW1 hit hB hL hit2 hB1 hst hwd hpos0 hb
                have hcs : ((⟨#[92]⟩ : ByteArray) ++ enc1 r).size ≤ 5 := by rw [ByteArray.size_append]; have : (⟨#[92]⟩ : ByteArray).size = 1 := rfl; omega
                go_wp2_with fail
                refine BC.out.mono ?_
                rintro en w3 ⟨rfl, hb3⟩
                have HI3 := Lib.hid (show w3.heap[w.heap.size]? = some (.stringIter s pos2) from by
                  rw [← HI2.out]; exact hb3.block _ (Array.getElem?_eq_some_iff.1 HI2.out).1)
                have HB3 := Lib.hid (below_then HB1.out (Nat.le_refl _) hb3)
                clear hb3
                go_wp2_with fail
                go_roundw
                case rel => exact ⟨pos2, fuel, _, rfl, HI3.out, HB3, HL, by omega, by rw [ByteArray.size_append]; omega⟩
                case measure => rw [iter_pos HI3.out, HP0.out]; omega
              · rw [hb, decide_eq_false h32, decide_eq_false h127, decide_eq_false h34, decide_eq_false h92] at hone
                simp only [Bool.false_or, Bool.true_or, Bool.or_true, Bool.or_false, if_true, if_false, Bool.false_eq_true] at hone
                subst hone
                have n32 : decide ((r : Int) < 32) = false := decide_eq_false h32
                have n127 : ((r : Int) == 127) = false := by rw [beq_eq_false_iff_ne]; exact h127
                have n34 : ((r : Int) == 34) = false := by rw [beq_eq_false_iff_ne]; exact h34
                have n92 : ((r : Int) == 92) = false := by rw [beq_eq_false_iff_ne]; exact h92
                clear h32 h127 h34 h92
                clear hW1 hit hB hL hit2 hB1 hst hwd hpos0 hb
                go_wp2_with fail
                refine BC.out.mono ?_
                rintro en w3 ⟨rfl, hb3⟩
                have HI3 := Lib.hid (show w3.heap[w.heap.size]? = some (.stringIter s pos2) from by
                  rw [← HI2.out]; exact hb3.block _ (Array.getElem?_eq_some_iff.1 HI2.out).1)
                have HB3 := Lib.hid (below_then HB1.out (Nat.le_refl _) hb3)
                clear hb3
                go_wp2_with fail
                go_roundw
                case rel => exact ⟨pos2, fuel, _, rfl, HI3.out, HB3, HL, by omega, by rw [ByteArray.size_append]; omega⟩
                case measure => rw [iter_pos HI3.out, HP0.out]; omega
      · rw [hb] at BC hone
        rw [Bool.true_or, if_pos rfl] at hone
        subst hone
        clear hW1 hit hB hL hit2 hB1 hst hwd hpos0 hb
        go_wp2_with fail
        refine BC.out.mono ?_
        rintro en w2 ⟨rfl, hb2⟩
        go_wp2_with fail
        refine (HES.out w2).mono ?_
        rintro en w3 ⟨rfl, hb3⟩
        have HI3 := Lib.hid (show w3.heap[w.heap.size]? = some (.stringIter s pos2) from by
          rw [← HI2.out]; exact (hb2.trans (hb3.mono hb2.size)).block _ (Array.getElem?_eq_some_iff.1 HI2.out).1)
        have HB3 := Lib.hid (below_then (below_then HB1.out (Nat.le_refl _) hb2) (Nat.le_refl _) hb3)
        clear hb2 hb3
        go_wp2_with fail
        go_roundw
        case rel => exact ⟨pos2, fuel, _, rfl, HI3.out, HB3, HL, by omega, by rw [ByteArray.size_append]; omega⟩
        case measure => rw [iter_pos HI3.out, HP0.out]; omega
    · have hnx : ∀ ty, (Instr.next (.pointer (some ⟨w.heap.size, 0, none⟩)) true ty).run Tryz.prog wr = _ := fun ty => Lib.run_next_end_at wr w.heap.size s pos ty hit hp
      rw [quoteFrom_end s fuel acc hp] at hL
      have HL2 := Lib.hid hL.out
      have HB := Lib.hid hB.out
      clear hit hL hpos0 hB
      go_wp2_with fail
      go_ret
      exact ⟨by unfold quoteF; rw [← HL2.out]; rfl, HB.out⟩
end Go.Proofs.YtljlbkichcjlfaaGreatDoor.Trc
