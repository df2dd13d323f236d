/- What 'Put' answers: walked. Conditions: the numbers are what their types bear. -/
import Derived.Test.YtghgefiaijfbgaaRecQ
namespace Go.Proofs.Ytghgefiaijfbgaa.Rec
open Go.RowKit Go.Proofs.Ytghgefiaijfbgaa.Crc Go.Proofs.Ytghgefiaijfbgaa.Codec
set_option linter.unusedVariables false
/-- What a kind's text has behind the kind. -/
def R.body (r : R) : List UInt8 :=
  if r.kind = 1 then leB r.frame 8 ++ leB r.own 1 else if r.kind = 2 then leB r.frame 8 ++ leB r.p0 1 ++ leB r.p1 1 else leB r.seg 8 ++ leB r.first 8 ++ leB r.epoch 8 ++ leB r.player 1
theorem body_text {r : R} (k : Nat) (h : r.kind = k) (hk : 1 ≤ k ∧ k ≤ 3) : leB k 1 ++ r.body = r.text := by
  have hk' : k = 1 ∨ k = 2 ∨ k = 3 := by omega
  unfold R.body R.text
  rcases hk' with rfl | rfl | rfl <;> rw [h] <;> rfl
theorem body_le (r : R) : r.body.length ≤ 25 := by
  unfold R.body
  by_cases h1 : r.kind = 1
  · rw [if_pos h1]; simp [leB_length]
  · rw [if_neg h1]
    by_cases h2 : r.kind = 2
    · rw [if_pos h2]; simp [leB_length]
    · rw [if_neg h2]; simp [leB_length]
/-- A writer gets the fields of a kind. -/
theorem fout_any (p B q : Nat) (r : R) (L : List UInt8) (w : World) (hr : r.wf) (hL : L.length ≤ 1000) (hw0 : Wr w p B L) (hb0 : Blk w q (rc r) 27) (hne : q ≠ p) (hqB : q < B) (hk : 1 ≤ r.kind ∧ r.kind ≤ 3) :
    Calls Try.prog 17 #[.pointer (some ⟨q, 0, none⟩), .iface 45 (.pointer (some ⟨p, 0, none⟩))] w fun e w' => e = .returned (.bool true) ∧ Wr w' p B (L ++ r.body) ∧ Kp B p w w' := by
  unfold R.body
  by_cases h1 : r.kind = 1
  · rw [if_pos h1]; exact fout1 p B q r L w hr hL hw0 hb0 hne hqB h1
  · rw [if_neg h1]
    by_cases h2 : r.kind = 2
    · rw [if_pos h2]; exact fout2 p B q r L w hr hL hw0 hb0 hne hqB h2
    · rw [if_neg h2]; exact fout3 p B q r L w hr hL hw0 hb0 hne hqB (by omega)
theorem wr_below {w w' : World} {p B : Nat} {L : List UInt8} (h : Wr w p B L) (hb : Below w.heap.size w w') : Wr w' p B L := by
  obtain ⟨v, t, h1, h2, h3, h4⟩ := h
  refine ⟨v, t, (hb.block p (by omega)).trans h1, ⟨h2.1, ?_⟩, h3, Nat.le_trans h4 hb.size⟩
  rcases h2.2 with h5 | ⟨g, cap, cur, e, hb1, hg, hrest⟩
  · exact .inl h5
  · exact .inr ⟨g, cap, cur, e, hb1, (hb.block g (lt_of_block hg)).trans hg, hrest⟩
set_option maxRecDepth 100000 in
/-- A field may not be. -/
theorem put_wrong (k : Nat) (r : R) (w : World) (hr : r.wf) (hk : r.kind = k) (h1 : 1 ≤ k ∧ k ≤ 3) (hrr : r.right = false) :
    Calls Try.prog 7 #[.agg (rc r)] w fun e w' => e = .returned (.tuple #[.string (bs []), .int .i64 4]) ∧ Below w.heap.size w w' := by
  have k3 : k ≤ 3 := h1.2
  have hrc : rc r = #[.int .i64 k, .int .u64 r.frame, .int .u8 r.own, .int .u8 r.p0, .int .u8 r.p1, .int .u64 r.seg, .int .u64 r.first, .int .u64 r.epoch, .int .u8 r.player] := by unfold rc; rw [hk]
  have HRC := Lib.hid hrc
  have HKK := Lib.hid hk
  clear hrc hk
  rw [HRC.out]
  go_enter Try.func7, Try.ntmps7
  go_wp2_with fail
  have hr0 : Blk (w.alloc (.cells (rc r) 27)) w.heap.size (rc r) 27 := heap_alloc_new w _
  rw [HRC.out] at hr0
  obtain ⟨W0, hW0⟩ : ∃ W0, W0 = ((w.alloc (.cells (rc r) 27)).alloc (.cells #[.slice none 0 0] 50)).alloc (.cells #[.int .u8 k] 5) := ⟨_, rfl⟩
  have hz0 : W0.heap.size = w.heap.size + 3 := by rw [hW0]; simp
  have hr1 : Blk W0 w.heap.size (rc r) 27 := by rw [hW0, HRC.out]; exact (hr0.alloc _).alloc _
  have ho1 : Wr W0 (w.heap.size + 1) (w.heap.size + 3) [] := Wr.nil (t := 50) (by rw [hW0]; have := heap_alloc2_old (w.alloc (.cells (rc r) 27)) (.cells #[.slice none 0 0] 50) (.cells #[.int .u8 k] 5); simpa using this) (by omega) (by omega)
  have hk1 : Blk W0 (w.heap.size + 1 + 1) #[.int .u8 k] 5 := by
    rw [hW0]; have := heap_alloc_new ((w.alloc (.cells (rc r) 27)).alloc (.cells #[.slice none 0 0] 50)) (.cells #[.int .u8 k] 5); simpa [Blk] using this
  have hB1 : Below w.heap.size w W0 := by rw [hW0]; exact (((Below.refl _ w).alloc (Nat.le_refl _) _).alloc (by simp) _).alloc (by simp; omega) _
  rw [HRC.out] at hW0
  rw [← hW0]
  refine (outbyte_any (w.heap.size + 1) (w.heap.size + 3) (w.heap.size + 1 + 1) 0 k [] W0 (by omega) (by simp) ho1 (hk1.cell _ rfl)).mono ?_
  rintro e w1 ⟨rfl, ho2, hp2⟩
  rw [List.nil_append] at ho2
  have hr2 : Blk w1 w.heap.size (rc r) 27 := hr1.kp hp2 (by omega) (by omega)
  have hk2 : Blk w1 (w.heap.size + 1 + 1) #[.int .u8 k] 5 := hk1.kp hp2 (by omega) (by omega)
  have hB2 : Below w.heap.size w w1 := hB1.trans (hp2.below (by omega) (by omega))
  have hz2 : w.heap.size + 3 ≤ w1.heap.size := by have := hp2.size; omega
  clear hr0 hr1 ho1 hk1 hB1 hp2 hW0 hz0
  have ck : w1.cell? ⟨w.heap.size + 1 + 1, 0, none⟩ = some (.int .u8 k) := hk2.cell _ rfl
  have cr : w1.cell? ⟨w.heap.size, 0, none⟩ = some (.int .i64 k) := hr2.cell _ (by rw [HRC.out]; rfl)
  clear hk2
  go_wp2_with fail
  refine (fout_any (w.heap.size + 1) (w.heap.size + 3) w.heap.size r (leB k 1) w1 hr (by rw [leB_length]; decide) ho2 hr2 (by omega) (by omega) (by rw [HKK.out]; omega)).mono ?_
  rintro e w2 ⟨rfl, ho3, hp3⟩
  have hr3 : Blk w2 w.heap.size (rc r) 27 := hr2.kp hp3 (by omega) (by omega)
  have hB3 : Below w.heap.size w w2 := hB2.trans (hp3.below (by omega) (by omega))
  have hz3 : w.heap.size + 3 ≤ w2.heap.size := by have := hp3.size; omega
  rw [body_text k HKK.out h1] at ho3
  clear hr2 ho2 hB2 hp3 hz2 ck cr
  have hR := right_any r w2 hr
  rw [hrr] at hR
  have HR := Lib.hid hR
  have HRR := Lib.hid hrr
  clear hR hrr
  go_wp2_with (refine load_recg (.tmp 1) w.heap.size r hr3 rfl rfl rfl ?_)
  refine HR.out.mono ?_
  rintro e w3 ⟨rfl, hb4⟩
  have hr4 : Blk w3 w.heap.size (rc r) 27 := (hb4.block _ hr3.lt).trans hr3
  have hB4 : Below w.heap.size w w3 := hB3.trans (hb4.mono (by omega))
  have hz4 : w.heap.size + 3 ≤ w3.heap.size := by have := hb4.size; omega
  have ho4 : Wr w3 (w.heap.size + 1) (w.heap.size + 3) r.text := wr_below ho3 hb4
  clear hr3 hB3 hb4 hz3 ho3
  go_wp2
  go_ret2
  exact ⟨rfl, hB4⟩
set_option maxRecDepth 100000 in
/-- A record is put. -/
theorem put_may (k : Nat) (r : R) (w : World) (hr : r.wf) (hk : r.kind = k) (h1 : 1 ≤ k ∧ k ≤ 3) (hrr : r.right = true) (hm : decide (r.only = r) = true) :
    Calls Try.prog 7 #[.agg (rc r)] w fun e w' => e = .returned (.tuple #[.string (bs r.text), .int .i64 0]) ∧ Below w.heap.size w w' := by
  have k3 : k ≤ 3 := h1.2
  have HM := Lib.hid hm
  clear hm
  have hrc : rc r = #[.int .i64 k, .int .u64 r.frame, .int .u8 r.own, .int .u8 r.p0, .int .u8 r.p1, .int .u64 r.seg, .int .u64 r.first, .int .u64 r.epoch, .int .u8 r.player] := by unfold rc; rw [hk]
  have HRC := Lib.hid hrc
  have HKK := Lib.hid hk
  clear hrc hk
  rw [HRC.out]
  go_enter Try.func7, Try.ntmps7
  go_wp2_with fail
  have hr0 : Blk (w.alloc (.cells (rc r) 27)) w.heap.size (rc r) 27 := heap_alloc_new w _
  rw [HRC.out] at hr0
  obtain ⟨W0, hW0⟩ : ∃ W0, W0 = ((w.alloc (.cells (rc r) 27)).alloc (.cells #[.slice none 0 0] 50)).alloc (.cells #[.int .u8 k] 5) := ⟨_, rfl⟩
  have hz0 : W0.heap.size = w.heap.size + 3 := by rw [hW0]; simp
  have hr1 : Blk W0 w.heap.size (rc r) 27 := by rw [hW0, HRC.out]; exact (hr0.alloc _).alloc _
  have ho1 : Wr W0 (w.heap.size + 1) (w.heap.size + 3) [] := Wr.nil (t := 50) (by rw [hW0]; have := heap_alloc2_old (w.alloc (.cells (rc r) 27)) (.cells #[.slice none 0 0] 50) (.cells #[.int .u8 k] 5); simpa using this) (by omega) (by omega)
  have hk1 : Blk W0 (w.heap.size + 1 + 1) #[.int .u8 k] 5 := by
    rw [hW0]; have := heap_alloc_new ((w.alloc (.cells (rc r) 27)).alloc (.cells #[.slice none 0 0] 50)) (.cells #[.int .u8 k] 5); simpa [Blk] using this
  have hB1 : Below w.heap.size w W0 := by rw [hW0]; exact (((Below.refl _ w).alloc (Nat.le_refl _) _).alloc (by simp) _).alloc (by simp; omega) _
  rw [HRC.out] at hW0
  rw [← hW0]
  refine (outbyte_any (w.heap.size + 1) (w.heap.size + 3) (w.heap.size + 1 + 1) 0 k [] W0 (by omega) (by simp) ho1 (hk1.cell _ rfl)).mono ?_
  rintro e w1 ⟨rfl, ho2, hp2⟩
  rw [List.nil_append] at ho2
  have hr2 : Blk w1 w.heap.size (rc r) 27 := hr1.kp hp2 (by omega) (by omega)
  have hk2 : Blk w1 (w.heap.size + 1 + 1) #[.int .u8 k] 5 := hk1.kp hp2 (by omega) (by omega)
  have hB2 : Below w.heap.size w w1 := hB1.trans (hp2.below (by omega) (by omega))
  have hz2 : w.heap.size + 3 ≤ w1.heap.size := by have := hp2.size; omega
  clear hr0 hr1 ho1 hk1 hB1 hp2 hW0 hz0
  have ck : w1.cell? ⟨w.heap.size + 1 + 1, 0, none⟩ = some (.int .u8 k) := hk2.cell _ rfl
  have cr : w1.cell? ⟨w.heap.size, 0, none⟩ = some (.int .i64 k) := hr2.cell _ (by rw [HRC.out]; rfl)
  clear hk2
  go_wp2_with fail
  refine (fout_any (w.heap.size + 1) (w.heap.size + 3) w.heap.size r (leB k 1) w1 hr (by rw [leB_length]; decide) ho2 hr2 (by omega) (by omega) (by rw [HKK.out]; omega)).mono ?_
  rintro e w2 ⟨rfl, ho3, hp3⟩
  have hr3 : Blk w2 w.heap.size (rc r) 27 := hr2.kp hp3 (by omega) (by omega)
  have hB3 : Below w.heap.size w w2 := hB2.trans (hp3.below (by omega) (by omega))
  have hz3 : w.heap.size + 3 ≤ w2.heap.size := by have := hp3.size; omega
  rw [body_text k HKK.out h1] at ho3
  clear hr2 ho2 hB2 hp3 hz2 ck cr
  have hR := right_any r w2 hr
  rw [hrr] at hR
  have HR := Lib.hid hR
  have HRR := Lib.hid hrr
  clear hR hrr
  go_wp2_with (refine load_recg (.tmp 1) w.heap.size r hr3 rfl rfl rfl ?_)
  refine HR.out.mono ?_
  rintro e w3 ⟨rfl, hb4⟩
  have hr4 : Blk w3 w.heap.size (rc r) 27 := (hb4.block _ hr3.lt).trans hr3
  have hB4 : Below w.heap.size w w3 := hB3.trans (hb4.mono (by omega))
  have hz4 : w.heap.size + 3 ≤ w3.heap.size := by have := hb4.size; omega
  have ho4 : Wr w3 (w.heap.size + 1) (w.heap.size + 3) r.text := wr_below ho3 hb4
  clear hr3 hB3 hb4 hz3 ho3
  go_wp2_with fail
  refine (bytes_any (w.heap.size + 1) (w.heap.size + 3) r.text w3 ho4).mono ?_
  rintro e w' ⟨rfl, rfl⟩
  have hT := take_any r.text w3 (by rw [← body_text k HKK.out h1, List.length_append, leB_length]; have := body_le r; unfold maxLen; omega)
  rw [tR_text hr (by rw [HKK.out]; omega) HRR.out] at hT
  have HT := Lib.hid hT
  clear hT
  go_wp2_with fail
  refine HT.out.mono ?_
  rintro e w4 ⟨rfl, hb5⟩
  have hr5 : Blk w4 w.heap.size (rc r) 27 := (hb5.block _ hr4.lt).trans hr4
  have hB5 : Below w.heap.size w w4 := hB4.trans (hb5.mono (by omega))
  have hz5 : w.heap.size + 3 ≤ w4.heap.size := by have := hb5.size; omega
  have hz6 : w.heap.size < w4.heap.size := by omega
  clear hr4 hB4 hb5 hz4 ho4
  have hn5 : Blk (w4.alloc (.cells (rc R.zero) 27)) w4.heap.size (rc R.zero) 27 := heap_alloc_new w4 _
  have hx6 : Blk ((w4.alloc (.cells (rc R.zero) 27)).setRow w4.heap.size (rc r.only)) w4.heap.size (rc r.only) 27 := setRow_heap _ _ _ _ _ _ hn5
  have hr6 : Blk ((w4.alloc (.cells (rc R.zero) 27)).setRow w4.heap.size (rc r.only)) w.heap.size (rc r) 27 := (setRow_other _ _ _ _ (by omega)).trans (hr5.alloc _)
  have hB6 := below_setRow (hB5.alloc (by omega) (.cells (rc R.zero) 27)) (show w.heap.size ≤ w4.heap.size by omega) (rc r.only)
  clear hr5 hB5 hz5 hz6
  go_wp2_with (first | (refine store_rec (.tmp 7) (.tmp 39) w4.heap.size R.zero r.only hn5 rfl rfl rfl rfl rfl ?_) | (refine load_recg (.tmp 7) w4.heap.size r.only hx6 rfl rfl rfl ?_) | (refine load_recg (.tmp 1) w.heap.size r hr6 rfl rfl rfl ?_) | (refine neq_rec (.tmp 44) (.tmp 45) r.only r true HM.out rfl rfl rfl rfl ?_))
  go_ret2
  exact ⟨rfl, hB6⟩
set_option maxRecDepth 100000 in
/-- A field that the kind does not name is not 0. -/
theorem put_other (k : Nat) (r : R) (w : World) (hr : r.wf) (hk : r.kind = k) (h1 : 1 ≤ k ∧ k ≤ 3) (hrr : r.right = true) (hm : decide (r.only = r) = false) :
    Calls Try.prog 7 #[.agg (rc r)] w fun e w' => e = .returned (.tuple #[.string (bs []), .int .i64 4]) ∧ Below w.heap.size w w' := by
  have k3 : k ≤ 3 := h1.2
  have HM := Lib.hid hm
  clear hm
  have hrc : rc r = #[.int .i64 k, .int .u64 r.frame, .int .u8 r.own, .int .u8 r.p0, .int .u8 r.p1, .int .u64 r.seg, .int .u64 r.first, .int .u64 r.epoch, .int .u8 r.player] := by unfold rc; rw [hk]
  have HRC := Lib.hid hrc
  have HKK := Lib.hid hk
  clear hrc hk
  rw [HRC.out]
  go_enter Try.func7, Try.ntmps7
  go_wp2_with fail
  have hr0 : Blk (w.alloc (.cells (rc r) 27)) w.heap.size (rc r) 27 := heap_alloc_new w _
  rw [HRC.out] at hr0
  obtain ⟨W0, hW0⟩ : ∃ W0, W0 = ((w.alloc (.cells (rc r) 27)).alloc (.cells #[.slice none 0 0] 50)).alloc (.cells #[.int .u8 k] 5) := ⟨_, rfl⟩
  have hz0 : W0.heap.size = w.heap.size + 3 := by rw [hW0]; simp
  have hr1 : Blk W0 w.heap.size (rc r) 27 := by rw [hW0, HRC.out]; exact (hr0.alloc _).alloc _
  have ho1 : Wr W0 (w.heap.size + 1) (w.heap.size + 3) [] := Wr.nil (t := 50) (by rw [hW0]; have := heap_alloc2_old (w.alloc (.cells (rc r) 27)) (.cells #[.slice none 0 0] 50) (.cells #[.int .u8 k] 5); simpa using this) (by omega) (by omega)
  have hk1 : Blk W0 (w.heap.size + 1 + 1) #[.int .u8 k] 5 := by
    rw [hW0]; have := heap_alloc_new ((w.alloc (.cells (rc r) 27)).alloc (.cells #[.slice none 0 0] 50)) (.cells #[.int .u8 k] 5); simpa [Blk] using this
  have hB1 : Below w.heap.size w W0 := by rw [hW0]; exact (((Below.refl _ w).alloc (Nat.le_refl _) _).alloc (by simp) _).alloc (by simp; omega) _
  rw [HRC.out] at hW0
  rw [← hW0]
  refine (outbyte_any (w.heap.size + 1) (w.heap.size + 3) (w.heap.size + 1 + 1) 0 k [] W0 (by omega) (by simp) ho1 (hk1.cell _ rfl)).mono ?_
  rintro e w1 ⟨rfl, ho2, hp2⟩
  rw [List.nil_append] at ho2
  have hr2 : Blk w1 w.heap.size (rc r) 27 := hr1.kp hp2 (by omega) (by omega)
  have hk2 : Blk w1 (w.heap.size + 1 + 1) #[.int .u8 k] 5 := hk1.kp hp2 (by omega) (by omega)
  have hB2 : Below w.heap.size w w1 := hB1.trans (hp2.below (by omega) (by omega))
  have hz2 : w.heap.size + 3 ≤ w1.heap.size := by have := hp2.size; omega
  clear hr0 hr1 ho1 hk1 hB1 hp2 hW0 hz0
  have ck : w1.cell? ⟨w.heap.size + 1 + 1, 0, none⟩ = some (.int .u8 k) := hk2.cell _ rfl
  have cr : w1.cell? ⟨w.heap.size, 0, none⟩ = some (.int .i64 k) := hr2.cell _ (by rw [HRC.out]; rfl)
  clear hk2
  go_wp2_with fail
  refine (fout_any (w.heap.size + 1) (w.heap.size + 3) w.heap.size r (leB k 1) w1 hr (by rw [leB_length]; decide) ho2 hr2 (by omega) (by omega) (by rw [HKK.out]; omega)).mono ?_
  rintro e w2 ⟨rfl, ho3, hp3⟩
  have hr3 : Blk w2 w.heap.size (rc r) 27 := hr2.kp hp3 (by omega) (by omega)
  have hB3 : Below w.heap.size w w2 := hB2.trans (hp3.below (by omega) (by omega))
  have hz3 : w.heap.size + 3 ≤ w2.heap.size := by have := hp3.size; omega
  rw [body_text k HKK.out h1] at ho3
  clear hr2 ho2 hB2 hp3 hz2 ck cr
  have hR := right_any r w2 hr
  rw [hrr] at hR
  have HR := Lib.hid hR
  have HRR := Lib.hid hrr
  clear hR hrr
  go_wp2_with (refine load_recg (.tmp 1) w.heap.size r hr3 rfl rfl rfl ?_)
  refine HR.out.mono ?_
  rintro e w3 ⟨rfl, hb4⟩
  have hr4 : Blk w3 w.heap.size (rc r) 27 := (hb4.block _ hr3.lt).trans hr3
  have hB4 : Below w.heap.size w w3 := hB3.trans (hb4.mono (by omega))
  have hz4 : w.heap.size + 3 ≤ w3.heap.size := by have := hb4.size; omega
  have ho4 : Wr w3 (w.heap.size + 1) (w.heap.size + 3) r.text := wr_below ho3 hb4
  clear hr3 hB3 hb4 hz3 ho3
  go_wp2_with fail
  refine (bytes_any (w.heap.size + 1) (w.heap.size + 3) r.text w3 ho4).mono ?_
  rintro e w' ⟨rfl, rfl⟩
  have hT := take_any r.text w3 (by rw [← body_text k HKK.out h1, List.length_append, leB_length]; have := body_le r; unfold maxLen; omega)
  rw [tR_text hr (by rw [HKK.out]; omega) HRR.out] at hT
  have HT := Lib.hid hT
  clear hT
  go_wp2_with fail
  refine HT.out.mono ?_
  rintro e w4 ⟨rfl, hb5⟩
  have hr5 : Blk w4 w.heap.size (rc r) 27 := (hb5.block _ hr4.lt).trans hr4
  have hB5 : Below w.heap.size w w4 := hB4.trans (hb5.mono (by omega))
  have hz5 : w.heap.size + 3 ≤ w4.heap.size := by have := hb5.size; omega
  have hz6 : w.heap.size < w4.heap.size := by omega
  clear hr4 hB4 hb5 hz4 ho4
  have hn5 : Blk (w4.alloc (.cells (rc R.zero) 27)) w4.heap.size (rc R.zero) 27 := heap_alloc_new w4 _
  have hx6 : Blk ((w4.alloc (.cells (rc R.zero) 27)).setRow w4.heap.size (rc r.only)) w4.heap.size (rc r.only) 27 := setRow_heap _ _ _ _ _ _ hn5
  have hr6 : Blk ((w4.alloc (.cells (rc R.zero) 27)).setRow w4.heap.size (rc r.only)) w.heap.size (rc r) 27 := (setRow_other _ _ _ _ (by omega)).trans (hr5.alloc _)
  have hB6 := below_setRow (hB5.alloc (by omega) (.cells (rc R.zero) 27)) (show w.heap.size ≤ w4.heap.size by omega) (rc r.only)
  clear hr5 hB5 hz5 hz6
  go_wp2_with (first | (refine store_rec (.tmp 7) (.tmp 39) w4.heap.size R.zero r.only hn5 rfl rfl rfl rfl rfl ?_) | (refine load_recg (.tmp 7) w4.heap.size r.only hx6 rfl rfl rfl ?_) | (refine load_recg (.tmp 1) w.heap.size r hr6 rfl rfl rfl ?_) | (refine neq_rec (.tmp 44) (.tmp 45) r.only r false HM.out rfl rfl rfl rfl ?_))
  go_ret2
  exact ⟨rfl, hB6⟩
set_option maxRecDepth 100000 in
/-- There is no such kind, though a byte bears it. -/
theorem put_none (k : Nat) (r : R) (w : World) (hr : r.wf) (hk : r.kind = k) (h1 : k < 1 ∨ 3 < k) (k3 : k < 256) :
    Calls Try.prog 7 #[.agg (rc r)] w fun e w' => e = .returned (.tuple #[.string (bs []), .int .i64 4]) ∧ Below w.heap.size w w' := by
  have hrc : rc r = #[.int .i64 k, .int .u64 r.frame, .int .u8 r.own, .int .u8 r.p0, .int .u8 r.p1, .int .u64 r.seg, .int .u64 r.first, .int .u64 r.epoch, .int .u8 r.player] := by unfold rc; rw [hk]
  have HRC := Lib.hid hrc
  have HKK := Lib.hid hk
  clear hrc hk
  rw [HRC.out]
  go_enter Try.func7, Try.ntmps7
  go_wp2_with fail
  have hr0 : Blk (w.alloc (.cells (rc r) 27)) w.heap.size (rc r) 27 := heap_alloc_new w _
  rw [HRC.out] at hr0
  obtain ⟨W0, hW0⟩ : ∃ W0, W0 = ((w.alloc (.cells (rc r) 27)).alloc (.cells #[.slice none 0 0] 50)).alloc (.cells #[.int .u8 k] 5) := ⟨_, rfl⟩
  have hz0 : W0.heap.size = w.heap.size + 3 := by rw [hW0]; simp
  have hr1 : Blk W0 w.heap.size (rc r) 27 := by rw [hW0, HRC.out]; exact (hr0.alloc _).alloc _
  have ho1 : Wr W0 (w.heap.size + 1) (w.heap.size + 3) [] := Wr.nil (t := 50) (by rw [hW0]; have := heap_alloc2_old (w.alloc (.cells (rc r) 27)) (.cells #[.slice none 0 0] 50) (.cells #[.int .u8 k] 5); simpa using this) (by omega) (by omega)
  have hk1 : Blk W0 (w.heap.size + 1 + 1) #[.int .u8 k] 5 := by
    rw [hW0]; have := heap_alloc_new ((w.alloc (.cells (rc r) 27)).alloc (.cells #[.slice none 0 0] 50)) (.cells #[.int .u8 k] 5); simpa [Blk] using this
  have hB1 : Below w.heap.size w W0 := by rw [hW0]; exact (((Below.refl _ w).alloc (Nat.le_refl _) _).alloc (by simp) _).alloc (by simp; omega) _
  rw [HRC.out] at hW0
  rw [← hW0]
  refine (outbyte_any (w.heap.size + 1) (w.heap.size + 3) (w.heap.size + 1 + 1) 0 k [] W0 (by omega) (by simp) ho1 (hk1.cell _ rfl)).mono ?_
  rintro e w1 ⟨rfl, ho2, hp2⟩
  rw [List.nil_append] at ho2
  have hr2 : Blk w1 w.heap.size (rc r) 27 := hr1.kp hp2 (by omega) (by omega)
  have hk2 : Blk w1 (w.heap.size + 1 + 1) #[.int .u8 k] 5 := hk1.kp hp2 (by omega) (by omega)
  have hB2 : Below w.heap.size w w1 := hB1.trans (hp2.below (by omega) (by omega))
  have hz2 : w.heap.size + 3 ≤ w1.heap.size := by have := hp2.size; omega
  clear hr0 hr1 ho1 hk1 hB1 hp2 hW0 hz0
  have ck : w1.cell? ⟨w.heap.size + 1 + 1, 0, none⟩ = some (.int .u8 k) := hk2.cell _ rfl
  have cr : w1.cell? ⟨w.heap.size, 0, none⟩ = some (.int .i64 k) := hr2.cell _ (by rw [HRC.out]; rfl)
  clear hk2
  go_wp2_with fail
  refine (fnone w.heap.size r _ w1 hr2 (by rw [HKK.out]; omega)).mono ?_
  rintro e w' ⟨rfl, rfl⟩
  go_wp2
  go_ret2
  exact ⟨rfl, hB2⟩
set_option maxRecDepth 100000 in
/-- No byte bears the kind. -/
theorem put_far (z : Int) (r : R) (w : World) (hr : r.wf) (hk : r.kind = z) (h1 : z < 0 ∨ 255 < z) :
    Calls Try.prog 7 #[.agg (rc r)] w fun e w' => e = .returned (.tuple #[.string (bs []), .int .i64 4]) ∧ Below w.heap.size w w' := by
  obtain ⟨k, hkz⟩ : ∃ k : Nat, z % 256 = k := ⟨(z % 256).toNat, by omega⟩
  have k3 : k < 256 := by omega
  have hne : ((k : Int) != z) = true := by simp; omega
  clear h1
  have hrc : rc r = #[.int .i64 z, .int .u64 r.frame, .int .u8 r.own, .int .u8 r.p0, .int .u8 r.p1, .int .u64 r.seg, .int .u64 r.first, .int .u64 r.epoch, .int .u8 r.player] := by unfold rc; rw [hk]
  have HRC := Lib.hid hrc
  have HKK := Lib.hid hk
  clear hrc hk
  rw [HRC.out]
  go_enter Try.func7, Try.ntmps7
  go_wp2_with fail
  have hr0 : Blk (w.alloc (.cells (rc r) 27)) w.heap.size (rc r) 27 := heap_alloc_new w _
  rw [HRC.out] at hr0
  obtain ⟨W0, hW0⟩ : ∃ W0, W0 = ((w.alloc (.cells (rc r) 27)).alloc (.cells #[.slice none 0 0] 50)).alloc (.cells #[.int .u8 k] 5) := ⟨_, rfl⟩
  have hz0 : W0.heap.size = w.heap.size + 3 := by rw [hW0]; simp
  have hr1 : Blk W0 w.heap.size (rc r) 27 := by rw [hW0, HRC.out]; exact (hr0.alloc _).alloc _
  have ho1 : Wr W0 (w.heap.size + 1) (w.heap.size + 3) [] := Wr.nil (t := 50) (by rw [hW0]; have := heap_alloc2_old (w.alloc (.cells (rc r) 27)) (.cells #[.slice none 0 0] 50) (.cells #[.int .u8 k] 5); simpa using this) (by omega) (by omega)
  have hk1 : Blk W0 (w.heap.size + 1 + 1) #[.int .u8 k] 5 := by
    rw [hW0]; have := heap_alloc_new ((w.alloc (.cells (rc r) 27)).alloc (.cells #[.slice none 0 0] 50)) (.cells #[.int .u8 k] 5); simpa [Blk] using this
  have hB1 : Below w.heap.size w W0 := by rw [hW0]; exact (((Below.refl _ w).alloc (Nat.le_refl _) _).alloc (by simp) _).alloc (by simp; omega) _
  rw [HRC.out] at hW0
  rw [← hW0]
  refine (outbyte_any (w.heap.size + 1) (w.heap.size + 3) (w.heap.size + 1 + 1) 0 k [] W0 (by omega) (by simp) ho1 (hk1.cell _ rfl)).mono ?_
  rintro e w1 ⟨rfl, ho2, hp2⟩
  rw [List.nil_append] at ho2
  have hr2 : Blk w1 w.heap.size (rc r) 27 := hr1.kp hp2 (by omega) (by omega)
  have hk2 : Blk w1 (w.heap.size + 1 + 1) #[.int .u8 k] 5 := hk1.kp hp2 (by omega) (by omega)
  have hB2 : Below w.heap.size w w1 := hB1.trans (hp2.below (by omega) (by omega))
  have hz2 : w.heap.size + 3 ≤ w1.heap.size := by have := hp2.size; omega
  clear hr0 hr1 ho1 hk1 hB1 hp2 hW0 hz0
  have ck : w1.cell? ⟨w.heap.size + 1 + 1, 0, none⟩ = some (.int .u8 k) := hk2.cell _ rfl
  have cr : w1.cell? ⟨w.heap.size, 0, none⟩ = some (.int .i64 z) := hr2.cell _ (by rw [HRC.out]; rfl)
  clear hk2
  go_wp2_with fail
  go_wp2
  go_ret2
  exact ⟨rfl, hB2⟩
/-- What 'Put' answers. -/
theorem put_any (r : R) (w : World) (hr : r.wf) :
    Calls Try.prog 7 #[.agg (rc r)] w fun e w' => e = .returned (.tuple #[.string (bs r.put.1), .int .i64 r.put.2]) ∧ Below w.heap.size w w' := by
  unfold R.put
  by_cases hm : r.may
  · rw [if_pos hm]
    have hk := may_kind hm
    obtain ⟨k, hk0⟩ : ∃ k : Nat, r.kind = k := ⟨r.kind.toNat, by omega⟩
    exact put_may k r w hr hk0 (by omega) hm.1 (decide_eq_true ((only_iff hk hm.1).2 hm))
  · rw [if_neg hm]
    by_cases hz : r.kind < 0 ∨ 255 < r.kind
    · exact put_far r.kind r w hr rfl hz
    · obtain ⟨k, hk0⟩ : ∃ k : Nat, r.kind = k := ⟨r.kind.toNat, by omega⟩
      by_cases h1 : 1 ≤ k ∧ k ≤ 3
      · cases hrr : r.right with
        | false => exact put_wrong k r w hr hk0 h1 hrr
        | true => exact put_other k r w hr hk0 h1 hrr (decide_eq_false fun e => hm ((only_iff (by omega) hrr).1 e))
      · exact put_none k r w hr hk0 (by omega) (by omega)
end Go.Proofs.Ytghgefiaijfbgaa.Rec
