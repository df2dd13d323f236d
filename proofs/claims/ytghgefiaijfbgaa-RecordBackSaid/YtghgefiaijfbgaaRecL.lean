/- The law RecordBack: walked. Conditions: the numbers are what their types bear. -/
import Derived.Test.YtghgefiaijfbgaaRecK
namespace Go.Proofs.Ytghgefiaijfbgaa.Rec
open Go.RowKit Go.Proofs.Ytghgefiaijfbgaa.Crc Go.Proofs.Ytghgefiaijfbgaa.Codec
set_option linter.unusedVariables false
theorem prefix_cut {s p : ByteArray} (h : p.size ≤ s.size) : (s.extract 0 p.size).toList = p.toList ↔ p.data.toList <+: s.data.toList := by
  rw [ByteArray.toList_eq, ByteArray.toList_eq]
  have e : (s.extract 0 p.size).data.toList = s.data.toList.take p.size := by simp [ByteArray.data_extract, List.extract_eq_take_drop]
  have hl : p.data.toList.length = p.size := by rw [Array.length_toList]; rfl
  rw [e, ← hl]
  constructor
  · intro h; rw [← h]; exact List.take_prefix _ _
  · intro h; exact (List.prefix_iff_eq_take.1 h).symm
def pre (s p : ByteArray) : Bool := decide (p.data.toList <+: s.data.toList)
set_option maxRecDepth 100000 in
theorem prefix_lite (s p : ByteArray) (w : World) (hs : s.size ≤ maxLen) (hp : p.size ≤ maxLen) :
    Calls Try.prog 28 #[.string s, .string p] w fun e w' => e = .returned (.bool (pre s p)) ∧ w = w' := by
  unfold maxLen at hs hp
  by_cases h : p.size ≤ s.size
  · have hi := prefix_cut h
    by_cases hc : p.data.toList <+: s.data.toList
    · have e1 : pre s p = true := decide_eq_true hc
      have e2 : ((s.extract 0 p.size).toList == p.toList) = true := by simpa using hi.2 hc
      rw [e1]
      clear hi hc e1
      go_enter Try.func28, Try.ntmps28
      go_wp2
      go_ret
      exact ⟨rfl, rfl⟩
    · have e1 : pre s p = false := decide_eq_false hc
      have e2 : ((s.extract 0 p.size).toList == p.toList) = false := by
        rw [beq_eq_false_iff_ne]; exact fun e => hc (hi.1 e)
      rw [e1]
      clear hi hc e1
      go_enter Try.func28, Try.ntmps28
      go_wp2
      go_ret
      exact ⟨rfl, rfl⟩
  · have e1 : pre s p = false := decide_eq_false fun hc => h (by have := hc.length_le; simpa using this)
    have h' : s.size < p.size := by omega
    rw [e1]
    clear e1 h
    go_enter Try.func28, Try.ntmps28
    go_wp2
    go_ret
    exact ⟨rfl, rfl⟩
set_option maxRecDepth 100000 in
theorem prefix_any (s p : ByteArray) (w : World) (hs : s.size ≤ maxLen) (hp : p.size ≤ maxLen) :
    Calls Try.prog 15 #[.string s, .string p] w fun e w' => e = .returned (.bool (pre s p)) ∧ w = w' := by
  go_enter Try.func15, Try.ntmps15
  go_wp2_with fail
  refine (prefix_lite s p w hs hp).mono ?_
  rintro e w' ⟨rfl, rfl⟩
  go_wp2
  go_ret
  exact ⟨rfl, rfl⟩
theorem text_le (r : R) : (bs r.text).size ≤ maxLen := by
  rw [bs_size]
  unfold R.text maxLen
  by_cases h1 : r.kind = 1
  · rw [if_pos h1]; simp [leB_length]
  · rw [if_neg h1]
    by_cases h2 : r.kind = 2
    · rw [if_pos h2]; simp [leB_length]
    · rw [if_neg h2]; simp [leB_length]
theorem put_yes {r : R} (h : r.may) (hr : r.wf) (W : World) : Calls Try.prog 7 #[.agg (rc r)] W fun e w' => e = .returned (.tuple #[.string (bs r.text), .int .i64 0]) ∧ Below W.heap.size W w' := by
  have := put_any r W hr
  unfold R.put at this
  rw [if_pos h] at this
  exact this
theorem put_no {r : R} (h : ¬ r.may) (hr : r.wf) (W : World) : Calls Try.prog 7 #[.agg (rc r)] W fun e w' => e = .returned (.tuple #[.string ⟨#[]⟩, .int .i64 4]) ∧ Below W.heap.size W w' := by
  have := put_any r W hr
  unfold R.put at this
  rw [if_neg h] at this
  exact this
theorem take_put {r : R} (h : r.may) (hr : r.wf) (W : World) : Calls Try.prog 10 #[.string (bs r.text)] W fun e w' => e = .returned (.tuple #[.agg (rc r), .int .i64 0]) ∧ Below W.heap.size W w' := by
  have := take_any r.text W (by have := text_le r; rwa [bs_size] at this)
  rw [tR_put hr h] at this
  exact this
theorem tR_wf {l : List UInt8} {r : R} (h : tR l = (r, 0)) : r.wf := by
  cases l with
  | nil => cases h
  | cons b m =>
    simp only [tR] at h
    by_cases hb : 1 ≤ b.toNat ∧ b.toNat ≤ 3
    · rw [if_pos hb] at h
      by_cases h1 : m.length < need b.toNat
      · rw [if_pos h1] at h; cases h
      · rw [if_neg h1] at h
        by_cases h2 : m.length = need b.toNat
        · rw [if_pos h2] at h
          by_cases h3 : (rOf b.toNat m).right
          · rw [if_pos h3] at h
            have e : rOf b.toNat m = r := congrArg Prod.fst h
            rw [← e]
            exact rOf_wf _ _
          · rw [if_neg h3] at h; cases h
        · rw [if_neg h2] at h; cases h
    · rw [if_neg hb] at h; cases h
set_option maxRecDepth 100000 in
set_option maxHeartbeats 400000 in
theorem back_n1 (s : ByteArray) (r1 r2 : R) (w : World) (hs : s.size ≤ maxLen) (h3 : s.size ≤ 3000) (w1 : r1.wf) (w2 : r2.wf) (ha : ¬ r1.may) (r3 : R) (hg : tR s.data.toList = (r3, 0)) :
    Calls Try.prog 6 #[.agg (rc r1), .agg (rc r2), .string s] w fun e w' => e = .returned (.bool true) ∧ Below w.heap.size w w' := by
  unfold maxLen at hs
  have PA := Lib.hid (put_no ha w1)
  have PB := Lib.hid (fun W => put_any r2 W w2)
  generalize bs r2.put.1 = U at PB
  generalize r2.put.2 = G at PB
  have hT := fun W => take_any s.data.toList W (by rw [Array.length_toList]; exact hs)
  rw [to_bs, hg] at hT
  have HT := Lib.hid hT
  obtain ⟨hm3, ht3⟩ := tR_back hg
  have w3 := tR_wf hg
  have P3 := Lib.hid (put_yes hm3 w3)
  rw [ht3, to_bs] at P3
  clear hT hg ha hm3 ht3 w3 w1 w2
  obtain ⟨ak, a1, a2, a3, a4, a5, a6, a7, a8⟩ := r1
  obtain ⟨bk, b1, b2, b3, b4, b5, b6, b7, b8⟩ := r2
  dsimp only [rc] at PA PB
  show Calls Try.prog 6 #[.agg #[.int .i64 ak, .int .u64 a1, .int .u8 a2, .int .u8 a3, .int .u8 a4, .int .u64 a5, .int .u64 a6, .int .u64 a7, .int .u8 a8], .agg #[.int .i64 bk, .int .u64 b1, .int .u8 b2, .int .u8 b3, .int .u8 b4, .int .u64 b5, .int .u64 b6, .int .u64 b7, .int .u8 b8], .string s] w _
  go_enter Try.func6, Try.ntmps6
  go_wp2_with fail
  refine (PA.out _).mono ?_
  rintro e W1 ⟨rfl, hb⟩
  have ba : Blk W1 w.heap.size (rc ⟨ak, a1, a2, a3, a4, a5, a6, a7, a8⟩) 27 := (hb.block _ (by simp; omega)).trans (heap_alloc2_old w _ _)
  have bb : Blk W1 (w.heap.size + 1) (rc ⟨bk, b1, b2, b3, b4, b5, b6, b7, b8⟩) 27 := (hb.block _ (by simp)).trans (heap_alloc2_new w _ _)
  have hB : Below w.heap.size w W1 := (((Below.refl _ w).alloc (Nat.le_refl _) _).alloc (by simp) _).trans (hb.mono (by simp; omega))
  clear hb
  go_wp2_with (refine load_rec (.tmp 4) (w.heap.size + 1) ⟨bk, b1, b2, b3, b4, b5, b6, b7, b8⟩ bb rfl rfl rfl ?_)
  refine (PB.out _).mono ?_
  rintro e W2 ⟨rfl, hb⟩
  have ba2 : Blk W2 w.heap.size (rc ⟨ak, a1, a2, a3, a4, a5, a6, a7, a8⟩) 27 := (hb.block _ ba.lt).trans ba
  have bb2 : Blk W2 (w.heap.size + 1) (rc ⟨bk, b1, b2, b3, b4, b5, b6, b7, b8⟩) 27 := (hb.block _ bb.lt).trans bb
  have hB2 : Below w.heap.size w W2 := hB.trans (hb.mono hB.size)
  clear hb ba bb hB PA PB
  go_wp2_with fail
  refine (HT.out _).mono ?_
  rintro e W5 ⟨rfl, hb⟩
  have hB5 : Below w.heap.size w W5 := hB2.trans (hb.mono hB2.size)
  clear hb ba2 bb2 hB2
  have hn : Blk (W5.alloc (.cells (rc R.zero) 27)) W5.heap.size (rc R.zero) 27 := heap_alloc_new W5 _
  have hx : Blk ((W5.alloc (.cells (rc R.zero) 27)).setRow W5.heap.size (rc r3)) W5.heap.size (rc r3) 27 := setRow_heap _ _ _ _ _ _ hn
  have hB6 : Below w.heap.size w ((W5.alloc (.cells (rc R.zero) 27)).setRow W5.heap.size (rc r3)) := below_setRow (hB5.alloc hB5.size _) hB5.size _
  clear hB5
  go_wp2_with (first | (refine store_rec (.tmp 13) (.tmp 68) W5.heap.size R.zero r3 hn rfl rfl rfl rfl rfl ?_) | (refine load_rec (.tmp 13) W5.heap.size r3 hx rfl rfl rfl ?_))
  refine (P3.out _).mono ?_
  rintro e W7 ⟨rfl, hb⟩
  have hB7 : Below w.heap.size w W7 := hB6.trans (hb.mono hB6.size)
  clear hb hn hx hB6
  go_wp2_with fail
  refine (awake_any _).mono ?_
  rintro e W8 ⟨rfl, hb⟩
  have hB8 : Below w.heap.size w W8 := hB7.trans (hb.mono hB7.size)
  go_wp2
  go_ret
  exact ⟨rfl, hB8⟩
set_option maxRecDepth 100000 in
set_option maxHeartbeats 400000 in
theorem back_n2 (s : ByteArray) (r1 r2 : R) (w : World) (hs : s.size ≤ maxLen) (h3 : s.size ≤ 3000) (w1 : r1.wf) (w2 : r2.wf) (ha : ¬ r1.may) (E : Int) (hE : E ≠ 0) (hg : tR s.data.toList = (R.zero, E)) :
    Calls Try.prog 6 #[.agg (rc r1), .agg (rc r2), .string s] w fun e w' => e = .returned (.bool true) ∧ Below w.heap.size w w' := by
  unfold maxLen at hs
  have PA := Lib.hid (put_no ha w1)
  have PB := Lib.hid (fun W => put_any r2 W w2)
  generalize bs r2.put.1 = U at PB
  generalize r2.put.2 = G at PB
  have hT := fun W => take_any s.data.toList W (by rw [Array.length_toList]; exact hs)
  rw [to_bs, hg] at hT
  have HT := Lib.hid hT
  clear hT hg ha w1 w2
  obtain ⟨ak, a1, a2, a3, a4, a5, a6, a7, a8⟩ := r1
  obtain ⟨bk, b1, b2, b3, b4, b5, b6, b7, b8⟩ := r2
  have hE2 : (E != 0) = true := by simpa using hE
  dsimp only [rc] at PA PB
  show Calls Try.prog 6 #[.agg #[.int .i64 ak, .int .u64 a1, .int .u8 a2, .int .u8 a3, .int .u8 a4, .int .u64 a5, .int .u64 a6, .int .u64 a7, .int .u8 a8], .agg #[.int .i64 bk, .int .u64 b1, .int .u8 b2, .int .u8 b3, .int .u8 b4, .int .u64 b5, .int .u64 b6, .int .u64 b7, .int .u8 b8], .string s] w _
  go_enter Try.func6, Try.ntmps6
  go_wp2_with fail
  refine (PA.out _).mono ?_
  rintro e W1 ⟨rfl, hb⟩
  have ba : Blk W1 w.heap.size (rc ⟨ak, a1, a2, a3, a4, a5, a6, a7, a8⟩) 27 := (hb.block _ (by simp; omega)).trans (heap_alloc2_old w _ _)
  have bb : Blk W1 (w.heap.size + 1) (rc ⟨bk, b1, b2, b3, b4, b5, b6, b7, b8⟩) 27 := (hb.block _ (by simp)).trans (heap_alloc2_new w _ _)
  have hB : Below w.heap.size w W1 := (((Below.refl _ w).alloc (Nat.le_refl _) _).alloc (by simp) _).trans (hb.mono (by simp; omega))
  clear hb
  go_wp2_with (refine load_rec (.tmp 4) (w.heap.size + 1) ⟨bk, b1, b2, b3, b4, b5, b6, b7, b8⟩ bb rfl rfl rfl ?_)
  refine (PB.out _).mono ?_
  rintro e W2 ⟨rfl, hb⟩
  have ba2 : Blk W2 w.heap.size (rc ⟨ak, a1, a2, a3, a4, a5, a6, a7, a8⟩) 27 := (hb.block _ ba.lt).trans ba
  have bb2 : Blk W2 (w.heap.size + 1) (rc ⟨bk, b1, b2, b3, b4, b5, b6, b7, b8⟩) 27 := (hb.block _ bb.lt).trans bb
  have hB2 : Below w.heap.size w W2 := hB.trans (hb.mono hB.size)
  clear hb ba bb hB PA PB
  go_wp2_with fail
  refine (HT.out _).mono ?_
  rintro e W5 ⟨rfl, hb⟩
  have hB5 : Below w.heap.size w W5 := hB2.trans (hb.mono hB2.size)
  clear hb ba2 bb2 hB2
  have hn : Blk (W5.alloc (.cells (rc R.zero) 27)) W5.heap.size (rc R.zero) 27 := heap_alloc_new W5 _
  have hx : Blk ((W5.alloc (.cells (rc R.zero) 27)).setRow W5.heap.size (rc R.zero)) W5.heap.size (rc R.zero) 27 := setRow_heap _ _ _ _ _ _ hn
  have hB6 : Below w.heap.size w ((W5.alloc (.cells (rc R.zero) 27)).setRow W5.heap.size (rc R.zero)) := below_setRow (hB5.alloc hB5.size _) hB5.size _
  clear hB5
  go_wp2_with (first | (refine store_rec (.tmp 13) (.tmp 68) W5.heap.size R.zero R.zero hn rfl rfl rfl rfl rfl ?_) | (refine load_rec (.tmp 13) W5.heap.size R.zero hx rfl rfl rfl ?_) | (refine eql_rec (.tmp 72) (.tmp 73) R.zero R.zero true (by decide) rfl rfl rfl rfl ?_))
  refine (awake_any _).mono ?_
  rintro e W7 ⟨rfl, hb⟩
  have hB7 : Below w.heap.size w W7 := hB6.trans (hb.mono hB6.size)
  clear hb hn hx hB6
  go_wp2
  go_ret
  exact ⟨rfl, hB7⟩
set_option maxRecDepth 100000 in
set_option maxHeartbeats 400000 in
theorem back_o1 (s : ByteArray) (r1 r2 : R) (w : World) (hs : s.size ≤ maxLen) (h3 : s.size ≤ 3000) (w1 : r1.wf) (w2 : r2.wf) (ha : r1.may) (hb : ¬ r2.may) (r3 : R) (hg : tR s.data.toList = (r3, 0)) :
    Calls Try.prog 6 #[.agg (rc r1), .agg (rc r2), .string s] w fun e w' => e = .returned (.bool true) ∧ Below w.heap.size w w' := by
  unfold maxLen at hs
  have PA := Lib.hid (put_yes ha w1)
  have PB := Lib.hid (put_no hb w2)
  have TA := Lib.hid (take_put ha w1)
  have hT := fun W => take_any s.data.toList W (by rw [Array.length_toList]; exact hs)
  rw [to_bs, hg] at hT
  have HT := Lib.hid hT
  obtain ⟨hm3, ht3⟩ := tR_back hg
  have w3 := tR_wf hg
  have P3 := Lib.hid (put_yes hm3 w3)
  rw [ht3, to_bs] at P3
  generalize bs r1.text = TX at *
  clear hT hg ha hb hm3 ht3 w3 w1 w2
  obtain ⟨ak, a1, a2, a3, a4, a5, a6, a7, a8⟩ := r1
  obtain ⟨bk, b1, b2, b3, b4, b5, b6, b7, b8⟩ := r2
  dsimp only [rc] at PA PB
  show Calls Try.prog 6 #[.agg #[.int .i64 ak, .int .u64 a1, .int .u8 a2, .int .u8 a3, .int .u8 a4, .int .u64 a5, .int .u64 a6, .int .u64 a7, .int .u8 a8], .agg #[.int .i64 bk, .int .u64 b1, .int .u8 b2, .int .u8 b3, .int .u8 b4, .int .u64 b5, .int .u64 b6, .int .u64 b7, .int .u8 b8], .string s] w _
  go_enter Try.func6, Try.ntmps6
  go_wp2_with fail
  refine (PA.out _).mono ?_
  rintro e W1 ⟨rfl, hb⟩
  have ba : Blk W1 w.heap.size (rc ⟨ak, a1, a2, a3, a4, a5, a6, a7, a8⟩) 27 := (hb.block _ (by simp; omega)).trans (heap_alloc2_old w _ _)
  have bb : Blk W1 (w.heap.size + 1) (rc ⟨bk, b1, b2, b3, b4, b5, b6, b7, b8⟩) 27 := (hb.block _ (by simp)).trans (heap_alloc2_new w _ _)
  have hB : Below w.heap.size w W1 := (((Below.refl _ w).alloc (Nat.le_refl _) _).alloc (by simp) _).trans (hb.mono (by simp; omega))
  clear hb
  go_wp2_with (refine load_rec (.tmp 4) (w.heap.size + 1) ⟨bk, b1, b2, b3, b4, b5, b6, b7, b8⟩ bb rfl rfl rfl ?_)
  refine (PB.out _).mono ?_
  rintro e W2 ⟨rfl, hb⟩
  have ba2 : Blk W2 w.heap.size (rc ⟨ak, a1, a2, a3, a4, a5, a6, a7, a8⟩) 27 := (hb.block _ ba.lt).trans ba
  have bb2 : Blk W2 (w.heap.size + 1) (rc ⟨bk, b1, b2, b3, b4, b5, b6, b7, b8⟩) 27 := (hb.block _ bb.lt).trans bb
  have hB2 : Below w.heap.size w W2 := hB.trans (hb.mono hB.size)
  clear hb ba bb hB PA PB
  go_wp2_with fail
  refine (TA.out _).mono ?_
  rintro e W3 ⟨rfl, hb⟩
  have ba3 : Blk W3 w.heap.size (rc ⟨ak, a1, a2, a3, a4, a5, a6, a7, a8⟩) 27 := (hb.block _ ba2.lt).trans ba2
  have bb3 : Blk W3 (w.heap.size + 1) (rc ⟨bk, b1, b2, b3, b4, b5, b6, b7, b8⟩) 27 := (hb.block _ bb2.lt).trans bb2
  have hB3 : Below w.heap.size w W3 := hB2.trans (hb.mono hB2.size)
  clear hb ba2 bb2 hB2
  have hn : Blk (W3.alloc (.cells (rc R.zero) 27)) W3.heap.size (rc R.zero) 27 := heap_alloc_new W3 _
  have hx : Blk ((W3.alloc (.cells (rc R.zero) 27)).setRow W3.heap.size (rc ⟨ak, a1, a2, a3, a4, a5, a6, a7, a8⟩)) W3.heap.size (rc ⟨ak, a1, a2, a3, a4, a5, a6, a7, a8⟩) 27 := setRow_heap _ _ _ _ _ _ hn
  have ba4 : Blk ((W3.alloc (.cells (rc R.zero) 27)).setRow W3.heap.size (rc ⟨ak, a1, a2, a3, a4, a5, a6, a7, a8⟩)) w.heap.size (rc ⟨ak, a1, a2, a3, a4, a5, a6, a7, a8⟩) 27 := (setRow_other _ _ _ _ (Nat.ne_of_lt ba3.lt)).trans (ba3.alloc _)
  have bb4 : Blk ((W3.alloc (.cells (rc R.zero) 27)).setRow W3.heap.size (rc ⟨ak, a1, a2, a3, a4, a5, a6, a7, a8⟩)) (w.heap.size + 1) (rc ⟨bk, b1, b2, b3, b4, b5, b6, b7, b8⟩) 27 := (setRow_other _ _ _ _ (Nat.ne_of_lt bb3.lt)).trans (bb3.alloc _)
  have hB4 : Below w.heap.size w ((W3.alloc (.cells (rc R.zero) 27)).setRow W3.heap.size (rc ⟨ak, a1, a2, a3, a4, a5, a6, a7, a8⟩)) := below_setRow (hB3.alloc hB3.size _) hB3.size _
  clear ba3 bb3 hB3
  go_wp2_with (first | (refine store_rec (.tmp 11) (.tmp 36) W3.heap.size R.zero ⟨ak, a1, a2, a3, a4, a5, a6, a7, a8⟩ hn rfl rfl rfl rfl rfl ?_) | (refine load_rec (.tmp 11) W3.heap.size ⟨ak, a1, a2, a3, a4, a5, a6, a7, a8⟩ hx rfl rfl rfl ?_) | (refine load_rec (.tmp 3) w.heap.size ⟨ak, a1, a2, a3, a4, a5, a6, a7, a8⟩ ba4 rfl rfl rfl ?_) | (refine neq_rec (.tmp 38) (.tmp 39) ⟨ak, a1, a2, a3, a4, a5, a6, a7, a8⟩ ⟨ak, a1, a2, a3, a4, a5, a6, a7, a8⟩ true (decide_eq_true rfl) rfl rfl rfl rfl ?_))
  refine (HT.out _).mono ?_
  rintro e W5 ⟨rfl, hb⟩
  have hB5 : Below w.heap.size w W5 := hB4.trans (hb.mono hB4.size)
  clear hb hn hx ba4 bb4 hB4
  have hn : Blk (W5.alloc (.cells (rc R.zero) 27)) W5.heap.size (rc R.zero) 27 := heap_alloc_new W5 _
  have hx : Blk ((W5.alloc (.cells (rc R.zero) 27)).setRow W5.heap.size (rc r3)) W5.heap.size (rc r3) 27 := setRow_heap _ _ _ _ _ _ hn
  have hB6 : Below w.heap.size w ((W5.alloc (.cells (rc R.zero) 27)).setRow W5.heap.size (rc r3)) := below_setRow (hB5.alloc hB5.size _) hB5.size _
  clear hB5
  go_wp2_with (first | (refine store_rec (.tmp 13) (.tmp 68) W5.heap.size R.zero r3 hn rfl rfl rfl rfl rfl ?_) | (refine load_rec (.tmp 13) W5.heap.size r3 hx rfl rfl rfl ?_))
  refine (P3.out _).mono ?_
  rintro e W7 ⟨rfl, hb⟩
  have hB7 : Below w.heap.size w W7 := hB6.trans (hb.mono hB6.size)
  clear hb hn hx hB6
  go_wp2_with fail
  refine (awake_any _).mono ?_
  rintro e W8 ⟨rfl, hb⟩
  have hB8 : Below w.heap.size w W8 := hB7.trans (hb.mono hB7.size)
  go_wp2
  go_ret
  exact ⟨rfl, hB8⟩
set_option maxRecDepth 100000 in
set_option maxHeartbeats 400000 in
theorem back_o2 (s : ByteArray) (r1 r2 : R) (w : World) (hs : s.size ≤ maxLen) (h3 : s.size ≤ 3000) (w1 : r1.wf) (w2 : r2.wf) (ha : r1.may) (hb : ¬ r2.may) (E : Int) (hE : E ≠ 0) (hg : tR s.data.toList = (R.zero, E)) :
    Calls Try.prog 6 #[.agg (rc r1), .agg (rc r2), .string s] w fun e w' => e = .returned (.bool true) ∧ Below w.heap.size w w' := by
  unfold maxLen at hs
  have PA := Lib.hid (put_yes ha w1)
  have PB := Lib.hid (put_no hb w2)
  have TA := Lib.hid (take_put ha w1)
  have hT := fun W => take_any s.data.toList W (by rw [Array.length_toList]; exact hs)
  rw [to_bs, hg] at hT
  have HT := Lib.hid hT
  generalize bs r1.text = TX at *
  clear hT hg ha hb w1 w2
  obtain ⟨ak, a1, a2, a3, a4, a5, a6, a7, a8⟩ := r1
  obtain ⟨bk, b1, b2, b3, b4, b5, b6, b7, b8⟩ := r2
  have hE2 : (E != 0) = true := by simpa using hE
  dsimp only [rc] at PA PB
  show Calls Try.prog 6 #[.agg #[.int .i64 ak, .int .u64 a1, .int .u8 a2, .int .u8 a3, .int .u8 a4, .int .u64 a5, .int .u64 a6, .int .u64 a7, .int .u8 a8], .agg #[.int .i64 bk, .int .u64 b1, .int .u8 b2, .int .u8 b3, .int .u8 b4, .int .u64 b5, .int .u64 b6, .int .u64 b7, .int .u8 b8], .string s] w _
  go_enter Try.func6, Try.ntmps6
  go_wp2_with fail
  refine (PA.out _).mono ?_
  rintro e W1 ⟨rfl, hb⟩
  have ba : Blk W1 w.heap.size (rc ⟨ak, a1, a2, a3, a4, a5, a6, a7, a8⟩) 27 := (hb.block _ (by simp; omega)).trans (heap_alloc2_old w _ _)
  have bb : Blk W1 (w.heap.size + 1) (rc ⟨bk, b1, b2, b3, b4, b5, b6, b7, b8⟩) 27 := (hb.block _ (by simp)).trans (heap_alloc2_new w _ _)
  have hB : Below w.heap.size w W1 := (((Below.refl _ w).alloc (Nat.le_refl _) _).alloc (by simp) _).trans (hb.mono (by simp; omega))
  clear hb
  go_wp2_with (refine load_rec (.tmp 4) (w.heap.size + 1) ⟨bk, b1, b2, b3, b4, b5, b6, b7, b8⟩ bb rfl rfl rfl ?_)
  refine (PB.out _).mono ?_
  rintro e W2 ⟨rfl, hb⟩
  have ba2 : Blk W2 w.heap.size (rc ⟨ak, a1, a2, a3, a4, a5, a6, a7, a8⟩) 27 := (hb.block _ ba.lt).trans ba
  have bb2 : Blk W2 (w.heap.size + 1) (rc ⟨bk, b1, b2, b3, b4, b5, b6, b7, b8⟩) 27 := (hb.block _ bb.lt).trans bb
  have hB2 : Below w.heap.size w W2 := hB.trans (hb.mono hB.size)
  clear hb ba bb hB PA PB
  go_wp2_with fail
  refine (TA.out _).mono ?_
  rintro e W3 ⟨rfl, hb⟩
  have ba3 : Blk W3 w.heap.size (rc ⟨ak, a1, a2, a3, a4, a5, a6, a7, a8⟩) 27 := (hb.block _ ba2.lt).trans ba2
  have bb3 : Blk W3 (w.heap.size + 1) (rc ⟨bk, b1, b2, b3, b4, b5, b6, b7, b8⟩) 27 := (hb.block _ bb2.lt).trans bb2
  have hB3 : Below w.heap.size w W3 := hB2.trans (hb.mono hB2.size)
  clear hb ba2 bb2 hB2
  have hn : Blk (W3.alloc (.cells (rc R.zero) 27)) W3.heap.size (rc R.zero) 27 := heap_alloc_new W3 _
  have hx : Blk ((W3.alloc (.cells (rc R.zero) 27)).setRow W3.heap.size (rc ⟨ak, a1, a2, a3, a4, a5, a6, a7, a8⟩)) W3.heap.size (rc ⟨ak, a1, a2, a3, a4, a5, a6, a7, a8⟩) 27 := setRow_heap _ _ _ _ _ _ hn
  have ba4 : Blk ((W3.alloc (.cells (rc R.zero) 27)).setRow W3.heap.size (rc ⟨ak, a1, a2, a3, a4, a5, a6, a7, a8⟩)) w.heap.size (rc ⟨ak, a1, a2, a3, a4, a5, a6, a7, a8⟩) 27 := (setRow_other _ _ _ _ (Nat.ne_of_lt ba3.lt)).trans (ba3.alloc _)
  have bb4 : Blk ((W3.alloc (.cells (rc R.zero) 27)).setRow W3.heap.size (rc ⟨ak, a1, a2, a3, a4, a5, a6, a7, a8⟩)) (w.heap.size + 1) (rc ⟨bk, b1, b2, b3, b4, b5, b6, b7, b8⟩) 27 := (setRow_other _ _ _ _ (Nat.ne_of_lt bb3.lt)).trans (bb3.alloc _)
  have hB4 : Below w.heap.size w ((W3.alloc (.cells (rc R.zero) 27)).setRow W3.heap.size (rc ⟨ak, a1, a2, a3, a4, a5, a6, a7, a8⟩)) := below_setRow (hB3.alloc hB3.size _) hB3.size _
  clear ba3 bb3 hB3
  go_wp2_with (first | (refine store_rec (.tmp 11) (.tmp 36) W3.heap.size R.zero ⟨ak, a1, a2, a3, a4, a5, a6, a7, a8⟩ hn rfl rfl rfl rfl rfl ?_) | (refine load_rec (.tmp 11) W3.heap.size ⟨ak, a1, a2, a3, a4, a5, a6, a7, a8⟩ hx rfl rfl rfl ?_) | (refine load_rec (.tmp 3) w.heap.size ⟨ak, a1, a2, a3, a4, a5, a6, a7, a8⟩ ba4 rfl rfl rfl ?_) | (refine neq_rec (.tmp 38) (.tmp 39) ⟨ak, a1, a2, a3, a4, a5, a6, a7, a8⟩ ⟨ak, a1, a2, a3, a4, a5, a6, a7, a8⟩ true (decide_eq_true rfl) rfl rfl rfl rfl ?_))
  refine (HT.out _).mono ?_
  rintro e W5 ⟨rfl, hb⟩
  have hB5 : Below w.heap.size w W5 := hB4.trans (hb.mono hB4.size)
  clear hb hn hx ba4 bb4 hB4
  have hn : Blk (W5.alloc (.cells (rc R.zero) 27)) W5.heap.size (rc R.zero) 27 := heap_alloc_new W5 _
  have hx : Blk ((W5.alloc (.cells (rc R.zero) 27)).setRow W5.heap.size (rc R.zero)) W5.heap.size (rc R.zero) 27 := setRow_heap _ _ _ _ _ _ hn
  have hB6 : Below w.heap.size w ((W5.alloc (.cells (rc R.zero) 27)).setRow W5.heap.size (rc R.zero)) := below_setRow (hB5.alloc hB5.size _) hB5.size _
  clear hB5
  go_wp2_with (first | (refine store_rec (.tmp 13) (.tmp 68) W5.heap.size R.zero R.zero hn rfl rfl rfl rfl rfl ?_) | (refine load_rec (.tmp 13) W5.heap.size R.zero hx rfl rfl rfl ?_) | (refine eql_rec (.tmp 72) (.tmp 73) R.zero R.zero true (by decide) rfl rfl rfl rfl ?_))
  refine (awake_any _).mono ?_
  rintro e W7 ⟨rfl, hb⟩
  have hB7 : Below w.heap.size w W7 := hB6.trans (hb.mono hB6.size)
  clear hb hn hx hB6
  go_wp2
  go_ret
  exact ⟨rfl, hB7⟩
set_option maxRecDepth 100000 in
set_option maxHeartbeats 400000 in
theorem back_p1 (s : ByteArray) (r1 r2 : R) (w : World) (hs : s.size ≤ maxLen) (h3 : s.size ≤ 3000) (w1 : r1.wf) (w2 : r2.wf) (ha : r1.may) (hb : r2.may) (hp : pre (bs r2.text) (bs r1.text) = true) (he : r1 = r2) (r3 : R) (hg : tR s.data.toList = (r3, 0)) :
    Calls Try.prog 6 #[.agg (rc r1), .agg (rc r2), .string s] w fun e w' => e = .returned (.bool true) ∧ Below w.heap.size w w' := by
  unfold maxLen at hs
  subst he
  have PA := Lib.hid (put_yes ha w1)
  have PB := Lib.hid (put_yes hb w2)
  have TA := Lib.hid (take_put ha w1)
  have HP := Lib.hid (fun W => prefix_any (bs r1.text) (bs r1.text) W (text_le _) (text_le _))
  rw [hp] at HP
  have hT := fun W => take_any s.data.toList W (by rw [Array.length_toList]; exact hs)
  rw [to_bs, hg] at hT
  have HT := Lib.hid hT
  obtain ⟨hm3, ht3⟩ := tR_back hg
  have w3 := tR_wf hg
  have P3 := Lib.hid (put_yes hm3 w3)
  rw [ht3, to_bs] at P3
  generalize bs r1.text = TX at *
  clear hT hg ha hb hp hm3 ht3 w3 w1 w2
  obtain ⟨ak, a1, a2, a3, a4, a5, a6, a7, a8⟩ := r1
  dsimp only [rc] at PA PB
  show Calls Try.prog 6 #[.agg #[.int .i64 ak, .int .u64 a1, .int .u8 a2, .int .u8 a3, .int .u8 a4, .int .u64 a5, .int .u64 a6, .int .u64 a7, .int .u8 a8], .agg #[.int .i64 ak, .int .u64 a1, .int .u8 a2, .int .u8 a3, .int .u8 a4, .int .u64 a5, .int .u64 a6, .int .u64 a7, .int .u8 a8], .string s] w _
  go_enter Try.func6, Try.ntmps6
  go_wp2_with fail
  refine (PA.out _).mono ?_
  rintro e W1 ⟨rfl, hb⟩
  have ba : Blk W1 w.heap.size (rc ⟨ak, a1, a2, a3, a4, a5, a6, a7, a8⟩) 27 := (hb.block _ (by simp; omega)).trans (heap_alloc2_old w _ _)
  have bb : Blk W1 (w.heap.size + 1) (rc ⟨ak, a1, a2, a3, a4, a5, a6, a7, a8⟩) 27 := (hb.block _ (by simp)).trans (heap_alloc2_new w _ _)
  have hB : Below w.heap.size w W1 := (((Below.refl _ w).alloc (Nat.le_refl _) _).alloc (by simp) _).trans (hb.mono (by simp; omega))
  clear hb
  go_wp2_with (refine load_rec (.tmp 4) (w.heap.size + 1) ⟨ak, a1, a2, a3, a4, a5, a6, a7, a8⟩ bb rfl rfl rfl ?_)
  refine (PB.out _).mono ?_
  rintro e W2 ⟨rfl, hb⟩
  have ba2 : Blk W2 w.heap.size (rc ⟨ak, a1, a2, a3, a4, a5, a6, a7, a8⟩) 27 := (hb.block _ ba.lt).trans ba
  have bb2 : Blk W2 (w.heap.size + 1) (rc ⟨ak, a1, a2, a3, a4, a5, a6, a7, a8⟩) 27 := (hb.block _ bb.lt).trans bb
  have hB2 : Below w.heap.size w W2 := hB.trans (hb.mono hB.size)
  clear hb ba bb hB PA PB
  go_wp2_with fail
  refine (TA.out _).mono ?_
  rintro e W3 ⟨rfl, hb⟩
  have ba3 : Blk W3 w.heap.size (rc ⟨ak, a1, a2, a3, a4, a5, a6, a7, a8⟩) 27 := (hb.block _ ba2.lt).trans ba2
  have bb3 : Blk W3 (w.heap.size + 1) (rc ⟨ak, a1, a2, a3, a4, a5, a6, a7, a8⟩) 27 := (hb.block _ bb2.lt).trans bb2
  have hB3 : Below w.heap.size w W3 := hB2.trans (hb.mono hB2.size)
  clear hb ba2 bb2 hB2
  have hn : Blk (W3.alloc (.cells (rc R.zero) 27)) W3.heap.size (rc R.zero) 27 := heap_alloc_new W3 _
  have hx : Blk ((W3.alloc (.cells (rc R.zero) 27)).setRow W3.heap.size (rc ⟨ak, a1, a2, a3, a4, a5, a6, a7, a8⟩)) W3.heap.size (rc ⟨ak, a1, a2, a3, a4, a5, a6, a7, a8⟩) 27 := setRow_heap _ _ _ _ _ _ hn
  have ba4 : Blk ((W3.alloc (.cells (rc R.zero) 27)).setRow W3.heap.size (rc ⟨ak, a1, a2, a3, a4, a5, a6, a7, a8⟩)) w.heap.size (rc ⟨ak, a1, a2, a3, a4, a5, a6, a7, a8⟩) 27 := (setRow_other _ _ _ _ (Nat.ne_of_lt ba3.lt)).trans (ba3.alloc _)
  have bb4 : Blk ((W3.alloc (.cells (rc R.zero) 27)).setRow W3.heap.size (rc ⟨ak, a1, a2, a3, a4, a5, a6, a7, a8⟩)) (w.heap.size + 1) (rc ⟨ak, a1, a2, a3, a4, a5, a6, a7, a8⟩) 27 := (setRow_other _ _ _ _ (Nat.ne_of_lt bb3.lt)).trans (bb3.alloc _)
  have hB4 : Below w.heap.size w ((W3.alloc (.cells (rc R.zero) 27)).setRow W3.heap.size (rc ⟨ak, a1, a2, a3, a4, a5, a6, a7, a8⟩)) := below_setRow (hB3.alloc hB3.size _) hB3.size _
  clear ba3 bb3 hB3
  go_wp2_with (first | (refine store_rec (.tmp 11) (.tmp 36) W3.heap.size R.zero ⟨ak, a1, a2, a3, a4, a5, a6, a7, a8⟩ hn rfl rfl rfl rfl rfl ?_) | (refine load_rec (.tmp 11) W3.heap.size ⟨ak, a1, a2, a3, a4, a5, a6, a7, a8⟩ hx rfl rfl rfl ?_) | (refine load_rec (.tmp 3) w.heap.size ⟨ak, a1, a2, a3, a4, a5, a6, a7, a8⟩ ba4 rfl rfl rfl ?_) | (refine neq_rec (.tmp 38) (.tmp 39) ⟨ak, a1, a2, a3, a4, a5, a6, a7, a8⟩ ⟨ak, a1, a2, a3, a4, a5, a6, a7, a8⟩ true (decide_eq_true rfl) rfl rfl rfl rfl ?_))
  refine (HP.out _).mono ?_
  rintro e W' ⟨rfl, rfl⟩
  go_wp2_with (first | (refine load_recg (.tmp 3) w.heap.size ⟨ak, a1, a2, a3, a4, a5, a6, a7, a8⟩ ba4 rfl rfl rfl ?_) | (refine load_recg (.tmp 4) (w.heap.size + 1) ⟨ak, a1, a2, a3, a4, a5, a6, a7, a8⟩ bb4 rfl rfl rfl ?_) | (refine neq_rec (.tmp 54) (.tmp 55) ⟨ak, a1, a2, a3, a4, a5, a6, a7, a8⟩ ⟨ak, a1, a2, a3, a4, a5, a6, a7, a8⟩ true (decide_eq_true rfl) rfl rfl rfl rfl ?_))
  refine (HT.out _).mono ?_
  rintro e W5 ⟨rfl, hb⟩
  have hB5 : Below w.heap.size w W5 := hB4.trans (hb.mono hB4.size)
  clear hb hn hx ba4 bb4 hB4
  have hn : Blk (W5.alloc (.cells (rc R.zero) 27)) W5.heap.size (rc R.zero) 27 := heap_alloc_new W5 _
  have hx : Blk ((W5.alloc (.cells (rc R.zero) 27)).setRow W5.heap.size (rc r3)) W5.heap.size (rc r3) 27 := setRow_heap _ _ _ _ _ _ hn
  have hB6 : Below w.heap.size w ((W5.alloc (.cells (rc R.zero) 27)).setRow W5.heap.size (rc r3)) := below_setRow (hB5.alloc hB5.size _) hB5.size _
  clear hB5
  go_wp2_with (first | (refine store_rec (.tmp 13) (.tmp 68) W5.heap.size R.zero r3 hn rfl rfl rfl rfl rfl ?_) | (refine load_rec (.tmp 13) W5.heap.size r3 hx rfl rfl rfl ?_))
  refine (P3.out _).mono ?_
  rintro e W7 ⟨rfl, hb⟩
  have hB7 : Below w.heap.size w W7 := hB6.trans (hb.mono hB6.size)
  clear hb hn hx hB6
  go_wp2_with fail
  refine (awake_any _).mono ?_
  rintro e W8 ⟨rfl, hb⟩
  have hB8 : Below w.heap.size w W8 := hB7.trans (hb.mono hB7.size)
  go_wp2
  go_ret
  exact ⟨rfl, hB8⟩
set_option maxRecDepth 100000 in
set_option maxHeartbeats 400000 in
theorem back_p2 (s : ByteArray) (r1 r2 : R) (w : World) (hs : s.size ≤ maxLen) (h3 : s.size ≤ 3000) (w1 : r1.wf) (w2 : r2.wf) (ha : r1.may) (hb : r2.may) (hp : pre (bs r2.text) (bs r1.text) = true) (he : r1 = r2) (E : Int) (hE : E ≠ 0) (hg : tR s.data.toList = (R.zero, E)) :
    Calls Try.prog 6 #[.agg (rc r1), .agg (rc r2), .string s] w fun e w' => e = .returned (.bool true) ∧ Below w.heap.size w w' := by
  unfold maxLen at hs
  subst he
  have PA := Lib.hid (put_yes ha w1)
  have PB := Lib.hid (put_yes hb w2)
  have TA := Lib.hid (take_put ha w1)
  have HP := Lib.hid (fun W => prefix_any (bs r1.text) (bs r1.text) W (text_le _) (text_le _))
  rw [hp] at HP
  have hT := fun W => take_any s.data.toList W (by rw [Array.length_toList]; exact hs)
  rw [to_bs, hg] at hT
  have HT := Lib.hid hT
  generalize bs r1.text = TX at *
  clear hT hg ha hb hp w1 w2
  obtain ⟨ak, a1, a2, a3, a4, a5, a6, a7, a8⟩ := r1
  have hE2 : (E != 0) = true := by simpa using hE
  dsimp only [rc] at PA PB
  show Calls Try.prog 6 #[.agg #[.int .i64 ak, .int .u64 a1, .int .u8 a2, .int .u8 a3, .int .u8 a4, .int .u64 a5, .int .u64 a6, .int .u64 a7, .int .u8 a8], .agg #[.int .i64 ak, .int .u64 a1, .int .u8 a2, .int .u8 a3, .int .u8 a4, .int .u64 a5, .int .u64 a6, .int .u64 a7, .int .u8 a8], .string s] w _
  go_enter Try.func6, Try.ntmps6
  go_wp2_with fail
  refine (PA.out _).mono ?_
  rintro e W1 ⟨rfl, hb⟩
  have ba : Blk W1 w.heap.size (rc ⟨ak, a1, a2, a3, a4, a5, a6, a7, a8⟩) 27 := (hb.block _ (by simp; omega)).trans (heap_alloc2_old w _ _)
  have bb : Blk W1 (w.heap.size + 1) (rc ⟨ak, a1, a2, a3, a4, a5, a6, a7, a8⟩) 27 := (hb.block _ (by simp)).trans (heap_alloc2_new w _ _)
  have hB : Below w.heap.size w W1 := (((Below.refl _ w).alloc (Nat.le_refl _) _).alloc (by simp) _).trans (hb.mono (by simp; omega))
  clear hb
  go_wp2_with (refine load_rec (.tmp 4) (w.heap.size + 1) ⟨ak, a1, a2, a3, a4, a5, a6, a7, a8⟩ bb rfl rfl rfl ?_)
  refine (PB.out _).mono ?_
  rintro e W2 ⟨rfl, hb⟩
  have ba2 : Blk W2 w.heap.size (rc ⟨ak, a1, a2, a3, a4, a5, a6, a7, a8⟩) 27 := (hb.block _ ba.lt).trans ba
  have bb2 : Blk W2 (w.heap.size + 1) (rc ⟨ak, a1, a2, a3, a4, a5, a6, a7, a8⟩) 27 := (hb.block _ bb.lt).trans bb
  have hB2 : Below w.heap.size w W2 := hB.trans (hb.mono hB.size)
  clear hb ba bb hB PA PB
  go_wp2_with fail
  refine (TA.out _).mono ?_
  rintro e W3 ⟨rfl, hb⟩
  have ba3 : Blk W3 w.heap.size (rc ⟨ak, a1, a2, a3, a4, a5, a6, a7, a8⟩) 27 := (hb.block _ ba2.lt).trans ba2
  have bb3 : Blk W3 (w.heap.size + 1) (rc ⟨ak, a1, a2, a3, a4, a5, a6, a7, a8⟩) 27 := (hb.block _ bb2.lt).trans bb2
  have hB3 : Below w.heap.size w W3 := hB2.trans (hb.mono hB2.size)
  clear hb ba2 bb2 hB2
  have hn : Blk (W3.alloc (.cells (rc R.zero) 27)) W3.heap.size (rc R.zero) 27 := heap_alloc_new W3 _
  have hx : Blk ((W3.alloc (.cells (rc R.zero) 27)).setRow W3.heap.size (rc ⟨ak, a1, a2, a3, a4, a5, a6, a7, a8⟩)) W3.heap.size (rc ⟨ak, a1, a2, a3, a4, a5, a6, a7, a8⟩) 27 := setRow_heap _ _ _ _ _ _ hn
  have ba4 : Blk ((W3.alloc (.cells (rc R.zero) 27)).setRow W3.heap.size (rc ⟨ak, a1, a2, a3, a4, a5, a6, a7, a8⟩)) w.heap.size (rc ⟨ak, a1, a2, a3, a4, a5, a6, a7, a8⟩) 27 := (setRow_other _ _ _ _ (Nat.ne_of_lt ba3.lt)).trans (ba3.alloc _)
  have bb4 : Blk ((W3.alloc (.cells (rc R.zero) 27)).setRow W3.heap.size (rc ⟨ak, a1, a2, a3, a4, a5, a6, a7, a8⟩)) (w.heap.size + 1) (rc ⟨ak, a1, a2, a3, a4, a5, a6, a7, a8⟩) 27 := (setRow_other _ _ _ _ (Nat.ne_of_lt bb3.lt)).trans (bb3.alloc _)
  have hB4 : Below w.heap.size w ((W3.alloc (.cells (rc R.zero) 27)).setRow W3.heap.size (rc ⟨ak, a1, a2, a3, a4, a5, a6, a7, a8⟩)) := below_setRow (hB3.alloc hB3.size _) hB3.size _
  clear ba3 bb3 hB3
  go_wp2_with (first | (refine store_rec (.tmp 11) (.tmp 36) W3.heap.size R.zero ⟨ak, a1, a2, a3, a4, a5, a6, a7, a8⟩ hn rfl rfl rfl rfl rfl ?_) | (refine load_rec (.tmp 11) W3.heap.size ⟨ak, a1, a2, a3, a4, a5, a6, a7, a8⟩ hx rfl rfl rfl ?_) | (refine load_rec (.tmp 3) w.heap.size ⟨ak, a1, a2, a3, a4, a5, a6, a7, a8⟩ ba4 rfl rfl rfl ?_) | (refine neq_rec (.tmp 38) (.tmp 39) ⟨ak, a1, a2, a3, a4, a5, a6, a7, a8⟩ ⟨ak, a1, a2, a3, a4, a5, a6, a7, a8⟩ true (decide_eq_true rfl) rfl rfl rfl rfl ?_))
  refine (HP.out _).mono ?_
  rintro e W' ⟨rfl, rfl⟩
  go_wp2_with (first | (refine load_recg (.tmp 3) w.heap.size ⟨ak, a1, a2, a3, a4, a5, a6, a7, a8⟩ ba4 rfl rfl rfl ?_) | (refine load_recg (.tmp 4) (w.heap.size + 1) ⟨ak, a1, a2, a3, a4, a5, a6, a7, a8⟩ bb4 rfl rfl rfl ?_) | (refine neq_rec (.tmp 54) (.tmp 55) ⟨ak, a1, a2, a3, a4, a5, a6, a7, a8⟩ ⟨ak, a1, a2, a3, a4, a5, a6, a7, a8⟩ true (decide_eq_true rfl) rfl rfl rfl rfl ?_))
  refine (HT.out _).mono ?_
  rintro e W5 ⟨rfl, hb⟩
  have hB5 : Below w.heap.size w W5 := hB4.trans (hb.mono hB4.size)
  clear hb hn hx ba4 bb4 hB4
  have hn : Blk (W5.alloc (.cells (rc R.zero) 27)) W5.heap.size (rc R.zero) 27 := heap_alloc_new W5 _
  have hx : Blk ((W5.alloc (.cells (rc R.zero) 27)).setRow W5.heap.size (rc R.zero)) W5.heap.size (rc R.zero) 27 := setRow_heap _ _ _ _ _ _ hn
  have hB6 : Below w.heap.size w ((W5.alloc (.cells (rc R.zero) 27)).setRow W5.heap.size (rc R.zero)) := below_setRow (hB5.alloc hB5.size _) hB5.size _
  clear hB5
  go_wp2_with (first | (refine store_rec (.tmp 13) (.tmp 68) W5.heap.size R.zero R.zero hn rfl rfl rfl rfl rfl ?_) | (refine load_rec (.tmp 13) W5.heap.size R.zero hx rfl rfl rfl ?_) | (refine eql_rec (.tmp 72) (.tmp 73) R.zero R.zero true (by decide) rfl rfl rfl rfl ?_))
  refine (awake_any _).mono ?_
  rintro e W7 ⟨rfl, hb⟩
  have hB7 : Below w.heap.size w W7 := hB6.trans (hb.mono hB6.size)
  clear hb hn hx hB6
  go_wp2
  go_ret
  exact ⟨rfl, hB7⟩
set_option maxRecDepth 100000 in
set_option maxHeartbeats 400000 in
theorem back_q1 (s : ByteArray) (r1 r2 : R) (w : World) (hs : s.size ≤ maxLen) (h3 : s.size ≤ 3000) (w1 : r1.wf) (w2 : r2.wf) (ha : r1.may) (hb : r2.may) (hp : pre (bs r2.text) (bs r1.text) = false) (r3 : R) (hg : tR s.data.toList = (r3, 0)) :
    Calls Try.prog 6 #[.agg (rc r1), .agg (rc r2), .string s] w fun e w' => e = .returned (.bool true) ∧ Below w.heap.size w w' := by
  unfold maxLen at hs
  have PA := Lib.hid (put_yes ha w1)
  have PB := Lib.hid (put_yes hb w2)
  have TA := Lib.hid (take_put ha w1)
  have HP := Lib.hid (fun W => prefix_any (bs r2.text) (bs r1.text) W (text_le _) (text_le _))
  rw [hp] at HP
  have hT := fun W => take_any s.data.toList W (by rw [Array.length_toList]; exact hs)
  rw [to_bs, hg] at hT
  have HT := Lib.hid hT
  obtain ⟨hm3, ht3⟩ := tR_back hg
  have w3 := tR_wf hg
  have P3 := Lib.hid (put_yes hm3 w3)
  rw [ht3, to_bs] at P3
  generalize bs r1.text = TX at *
  generalize bs r2.text = UX at *
  clear hT hg ha hb hp hm3 ht3 w3 w1 w2
  obtain ⟨ak, a1, a2, a3, a4, a5, a6, a7, a8⟩ := r1
  obtain ⟨bk, b1, b2, b3, b4, b5, b6, b7, b8⟩ := r2
  dsimp only [rc] at PA PB
  show Calls Try.prog 6 #[.agg #[.int .i64 ak, .int .u64 a1, .int .u8 a2, .int .u8 a3, .int .u8 a4, .int .u64 a5, .int .u64 a6, .int .u64 a7, .int .u8 a8], .agg #[.int .i64 bk, .int .u64 b1, .int .u8 b2, .int .u8 b3, .int .u8 b4, .int .u64 b5, .int .u64 b6, .int .u64 b7, .int .u8 b8], .string s] w _
  go_enter Try.func6, Try.ntmps6
  go_wp2_with fail
  refine (PA.out _).mono ?_
  rintro e W1 ⟨rfl, hb⟩
  have ba : Blk W1 w.heap.size (rc ⟨ak, a1, a2, a3, a4, a5, a6, a7, a8⟩) 27 := (hb.block _ (by simp; omega)).trans (heap_alloc2_old w _ _)
  have bb : Blk W1 (w.heap.size + 1) (rc ⟨bk, b1, b2, b3, b4, b5, b6, b7, b8⟩) 27 := (hb.block _ (by simp)).trans (heap_alloc2_new w _ _)
  have hB : Below w.heap.size w W1 := (((Below.refl _ w).alloc (Nat.le_refl _) _).alloc (by simp) _).trans (hb.mono (by simp; omega))
  clear hb
  go_wp2_with (refine load_rec (.tmp 4) (w.heap.size + 1) ⟨bk, b1, b2, b3, b4, b5, b6, b7, b8⟩ bb rfl rfl rfl ?_)
  refine (PB.out _).mono ?_
  rintro e W2 ⟨rfl, hb⟩
  have ba2 : Blk W2 w.heap.size (rc ⟨ak, a1, a2, a3, a4, a5, a6, a7, a8⟩) 27 := (hb.block _ ba.lt).trans ba
  have bb2 : Blk W2 (w.heap.size + 1) (rc ⟨bk, b1, b2, b3, b4, b5, b6, b7, b8⟩) 27 := (hb.block _ bb.lt).trans bb
  have hB2 : Below w.heap.size w W2 := hB.trans (hb.mono hB.size)
  clear hb ba bb hB PA PB
  go_wp2_with fail
  refine (TA.out _).mono ?_
  rintro e W3 ⟨rfl, hb⟩
  have ba3 : Blk W3 w.heap.size (rc ⟨ak, a1, a2, a3, a4, a5, a6, a7, a8⟩) 27 := (hb.block _ ba2.lt).trans ba2
  have bb3 : Blk W3 (w.heap.size + 1) (rc ⟨bk, b1, b2, b3, b4, b5, b6, b7, b8⟩) 27 := (hb.block _ bb2.lt).trans bb2
  have hB3 : Below w.heap.size w W3 := hB2.trans (hb.mono hB2.size)
  clear hb ba2 bb2 hB2
  have hn : Blk (W3.alloc (.cells (rc R.zero) 27)) W3.heap.size (rc R.zero) 27 := heap_alloc_new W3 _
  have hx : Blk ((W3.alloc (.cells (rc R.zero) 27)).setRow W3.heap.size (rc ⟨ak, a1, a2, a3, a4, a5, a6, a7, a8⟩)) W3.heap.size (rc ⟨ak, a1, a2, a3, a4, a5, a6, a7, a8⟩) 27 := setRow_heap _ _ _ _ _ _ hn
  have ba4 : Blk ((W3.alloc (.cells (rc R.zero) 27)).setRow W3.heap.size (rc ⟨ak, a1, a2, a3, a4, a5, a6, a7, a8⟩)) w.heap.size (rc ⟨ak, a1, a2, a3, a4, a5, a6, a7, a8⟩) 27 := (setRow_other _ _ _ _ (Nat.ne_of_lt ba3.lt)).trans (ba3.alloc _)
  have bb4 : Blk ((W3.alloc (.cells (rc R.zero) 27)).setRow W3.heap.size (rc ⟨ak, a1, a2, a3, a4, a5, a6, a7, a8⟩)) (w.heap.size + 1) (rc ⟨bk, b1, b2, b3, b4, b5, b6, b7, b8⟩) 27 := (setRow_other _ _ _ _ (Nat.ne_of_lt bb3.lt)).trans (bb3.alloc _)
  have hB4 : Below w.heap.size w ((W3.alloc (.cells (rc R.zero) 27)).setRow W3.heap.size (rc ⟨ak, a1, a2, a3, a4, a5, a6, a7, a8⟩)) := below_setRow (hB3.alloc hB3.size _) hB3.size _
  clear ba3 bb3 hB3
  go_wp2_with (first | (refine store_rec (.tmp 11) (.tmp 36) W3.heap.size R.zero ⟨ak, a1, a2, a3, a4, a5, a6, a7, a8⟩ hn rfl rfl rfl rfl rfl ?_) | (refine load_rec (.tmp 11) W3.heap.size ⟨ak, a1, a2, a3, a4, a5, a6, a7, a8⟩ hx rfl rfl rfl ?_) | (refine load_rec (.tmp 3) w.heap.size ⟨ak, a1, a2, a3, a4, a5, a6, a7, a8⟩ ba4 rfl rfl rfl ?_) | (refine neq_rec (.tmp 38) (.tmp 39) ⟨ak, a1, a2, a3, a4, a5, a6, a7, a8⟩ ⟨ak, a1, a2, a3, a4, a5, a6, a7, a8⟩ true (decide_eq_true rfl) rfl rfl rfl rfl ?_))
  refine (HP.out _).mono ?_
  rintro e W' ⟨rfl, rfl⟩
  go_wp2_with fail
  refine (HT.out _).mono ?_
  rintro e W5 ⟨rfl, hb⟩
  have hB5 : Below w.heap.size w W5 := hB4.trans (hb.mono hB4.size)
  clear hb hn hx ba4 bb4 hB4
  have hn : Blk (W5.alloc (.cells (rc R.zero) 27)) W5.heap.size (rc R.zero) 27 := heap_alloc_new W5 _
  have hx : Blk ((W5.alloc (.cells (rc R.zero) 27)).setRow W5.heap.size (rc r3)) W5.heap.size (rc r3) 27 := setRow_heap _ _ _ _ _ _ hn
  have hB6 : Below w.heap.size w ((W5.alloc (.cells (rc R.zero) 27)).setRow W5.heap.size (rc r3)) := below_setRow (hB5.alloc hB5.size _) hB5.size _
  clear hB5
  go_wp2_with (first | (refine store_rec (.tmp 13) (.tmp 68) W5.heap.size R.zero r3 hn rfl rfl rfl rfl rfl ?_) | (refine load_rec (.tmp 13) W5.heap.size r3 hx rfl rfl rfl ?_))
  refine (P3.out _).mono ?_
  rintro e W7 ⟨rfl, hb⟩
  have hB7 : Below w.heap.size w W7 := hB6.trans (hb.mono hB6.size)
  clear hb hn hx hB6
  go_wp2_with fail
  refine (awake_any _).mono ?_
  rintro e W8 ⟨rfl, hb⟩
  have hB8 : Below w.heap.size w W8 := hB7.trans (hb.mono hB7.size)
  go_wp2
  go_ret
  exact ⟨rfl, hB8⟩
set_option maxRecDepth 100000 in
set_option maxHeartbeats 400000 in
theorem back_q2 (s : ByteArray) (r1 r2 : R) (w : World) (hs : s.size ≤ maxLen) (h3 : s.size ≤ 3000) (w1 : r1.wf) (w2 : r2.wf) (ha : r1.may) (hb : r2.may) (hp : pre (bs r2.text) (bs r1.text) = false) (E : Int) (hE : E ≠ 0) (hg : tR s.data.toList = (R.zero, E)) :
    Calls Try.prog 6 #[.agg (rc r1), .agg (rc r2), .string s] w fun e w' => e = .returned (.bool true) ∧ Below w.heap.size w w' := by
  unfold maxLen at hs
  have PA := Lib.hid (put_yes ha w1)
  have PB := Lib.hid (put_yes hb w2)
  have TA := Lib.hid (take_put ha w1)
  have HP := Lib.hid (fun W => prefix_any (bs r2.text) (bs r1.text) W (text_le _) (text_le _))
  rw [hp] at HP
  have hT := fun W => take_any s.data.toList W (by rw [Array.length_toList]; exact hs)
  rw [to_bs, hg] at hT
  have HT := Lib.hid hT
  generalize bs r1.text = TX at *
  generalize bs r2.text = UX at *
  clear hT hg ha hb hp w1 w2
  obtain ⟨ak, a1, a2, a3, a4, a5, a6, a7, a8⟩ := r1
  obtain ⟨bk, b1, b2, b3, b4, b5, b6, b7, b8⟩ := r2
  have hE2 : (E != 0) = true := by simpa using hE
  dsimp only [rc] at PA PB
  show Calls Try.prog 6 #[.agg #[.int .i64 ak, .int .u64 a1, .int .u8 a2, .int .u8 a3, .int .u8 a4, .int .u64 a5, .int .u64 a6, .int .u64 a7, .int .u8 a8], .agg #[.int .i64 bk, .int .u64 b1, .int .u8 b2, .int .u8 b3, .int .u8 b4, .int .u64 b5, .int .u64 b6, .int .u64 b7, .int .u8 b8], .string s] w _
  go_enter Try.func6, Try.ntmps6
  go_wp2_with fail
  refine (PA.out _).mono ?_
  rintro e W1 ⟨rfl, hb⟩
  have ba : Blk W1 w.heap.size (rc ⟨ak, a1, a2, a3, a4, a5, a6, a7, a8⟩) 27 := (hb.block _ (by simp; omega)).trans (heap_alloc2_old w _ _)
  have bb : Blk W1 (w.heap.size + 1) (rc ⟨bk, b1, b2, b3, b4, b5, b6, b7, b8⟩) 27 := (hb.block _ (by simp)).trans (heap_alloc2_new w _ _)
  have hB : Below w.heap.size w W1 := (((Below.refl _ w).alloc (Nat.le_refl _) _).alloc (by simp) _).trans (hb.mono (by simp; omega))
  clear hb
  go_wp2_with (refine load_rec (.tmp 4) (w.heap.size + 1) ⟨bk, b1, b2, b3, b4, b5, b6, b7, b8⟩ bb rfl rfl rfl ?_)
  refine (PB.out _).mono ?_
  rintro e W2 ⟨rfl, hb⟩
  have ba2 : Blk W2 w.heap.size (rc ⟨ak, a1, a2, a3, a4, a5, a6, a7, a8⟩) 27 := (hb.block _ ba.lt).trans ba
  have bb2 : Blk W2 (w.heap.size + 1) (rc ⟨bk, b1, b2, b3, b4, b5, b6, b7, b8⟩) 27 := (hb.block _ bb.lt).trans bb
  have hB2 : Below w.heap.size w W2 := hB.trans (hb.mono hB.size)
  clear hb ba bb hB PA PB
  go_wp2_with fail
  refine (TA.out _).mono ?_
  rintro e W3 ⟨rfl, hb⟩
  have ba3 : Blk W3 w.heap.size (rc ⟨ak, a1, a2, a3, a4, a5, a6, a7, a8⟩) 27 := (hb.block _ ba2.lt).trans ba2
  have bb3 : Blk W3 (w.heap.size + 1) (rc ⟨bk, b1, b2, b3, b4, b5, b6, b7, b8⟩) 27 := (hb.block _ bb2.lt).trans bb2
  have hB3 : Below w.heap.size w W3 := hB2.trans (hb.mono hB2.size)
  clear hb ba2 bb2 hB2
  have hn : Blk (W3.alloc (.cells (rc R.zero) 27)) W3.heap.size (rc R.zero) 27 := heap_alloc_new W3 _
  have hx : Blk ((W3.alloc (.cells (rc R.zero) 27)).setRow W3.heap.size (rc ⟨ak, a1, a2, a3, a4, a5, a6, a7, a8⟩)) W3.heap.size (rc ⟨ak, a1, a2, a3, a4, a5, a6, a7, a8⟩) 27 := setRow_heap _ _ _ _ _ _ hn
  have ba4 : Blk ((W3.alloc (.cells (rc R.zero) 27)).setRow W3.heap.size (rc ⟨ak, a1, a2, a3, a4, a5, a6, a7, a8⟩)) w.heap.size (rc ⟨ak, a1, a2, a3, a4, a5, a6, a7, a8⟩) 27 := (setRow_other _ _ _ _ (Nat.ne_of_lt ba3.lt)).trans (ba3.alloc _)
  have bb4 : Blk ((W3.alloc (.cells (rc R.zero) 27)).setRow W3.heap.size (rc ⟨ak, a1, a2, a3, a4, a5, a6, a7, a8⟩)) (w.heap.size + 1) (rc ⟨bk, b1, b2, b3, b4, b5, b6, b7, b8⟩) 27 := (setRow_other _ _ _ _ (Nat.ne_of_lt bb3.lt)).trans (bb3.alloc _)
  have hB4 : Below w.heap.size w ((W3.alloc (.cells (rc R.zero) 27)).setRow W3.heap.size (rc ⟨ak, a1, a2, a3, a4, a5, a6, a7, a8⟩)) := below_setRow (hB3.alloc hB3.size _) hB3.size _
  clear ba3 bb3 hB3
  go_wp2_with (first | (refine store_rec (.tmp 11) (.tmp 36) W3.heap.size R.zero ⟨ak, a1, a2, a3, a4, a5, a6, a7, a8⟩ hn rfl rfl rfl rfl rfl ?_) | (refine load_rec (.tmp 11) W3.heap.size ⟨ak, a1, a2, a3, a4, a5, a6, a7, a8⟩ hx rfl rfl rfl ?_) | (refine load_rec (.tmp 3) w.heap.size ⟨ak, a1, a2, a3, a4, a5, a6, a7, a8⟩ ba4 rfl rfl rfl ?_) | (refine neq_rec (.tmp 38) (.tmp 39) ⟨ak, a1, a2, a3, a4, a5, a6, a7, a8⟩ ⟨ak, a1, a2, a3, a4, a5, a6, a7, a8⟩ true (decide_eq_true rfl) rfl rfl rfl rfl ?_))
  refine (HP.out _).mono ?_
  rintro e W' ⟨rfl, rfl⟩
  go_wp2_with fail
  refine (HT.out _).mono ?_
  rintro e W5 ⟨rfl, hb⟩
  have hB5 : Below w.heap.size w W5 := hB4.trans (hb.mono hB4.size)
  clear hb hn hx ba4 bb4 hB4
  have hn : Blk (W5.alloc (.cells (rc R.zero) 27)) W5.heap.size (rc R.zero) 27 := heap_alloc_new W5 _
  have hx : Blk ((W5.alloc (.cells (rc R.zero) 27)).setRow W5.heap.size (rc R.zero)) W5.heap.size (rc R.zero) 27 := setRow_heap _ _ _ _ _ _ hn
  have hB6 : Below w.heap.size w ((W5.alloc (.cells (rc R.zero) 27)).setRow W5.heap.size (rc R.zero)) := below_setRow (hB5.alloc hB5.size _) hB5.size _
  clear hB5
  go_wp2_with (first | (refine store_rec (.tmp 13) (.tmp 68) W5.heap.size R.zero R.zero hn rfl rfl rfl rfl rfl ?_) | (refine load_rec (.tmp 13) W5.heap.size R.zero hx rfl rfl rfl ?_) | (refine eql_rec (.tmp 72) (.tmp 73) R.zero R.zero true (by decide) rfl rfl rfl rfl ?_))
  refine (awake_any _).mono ?_
  rintro e W7 ⟨rfl, hb⟩
  have hB7 : Below w.heap.size w W7 := hB6.trans (hb.mono hB6.size)
  clear hb hn hx hB6
  go_wp2
  go_ret
  exact ⟨rfl, hB7⟩
set_option maxRecDepth 100000 in
theorem back_long (s : ByteArray) (r1 r2 : R) (w : World) (hs : s.size ≤ maxLen) (h3 : 3000 < s.size) :
    Calls Try.prog 6 #[.agg (rc r1), .agg (rc r2), .string s] w fun e w' => e = .returned (.bool true) ∧ Below w.heap.size w w' := by
  unfold maxLen at hs
  obtain ⟨ak, a1, a2, a3, a4, a5, a6, a7, a8⟩ := r1
  obtain ⟨bk, b1, b2, b3, b4, b5, b6, b7, b8⟩ := r2
  dsimp only [rc]
  go_enter Try.func6, Try.ntmps6
  go_wp2_with fail
  refine (awake_any _).mono ?_
  rintro e w1 ⟨rfl, hb⟩
  have hB : Below w.heap.size w w1 := (((Below.refl _ w).alloc (Nat.le_refl _) _).alloc (by simp) _).trans (hb.mono (by simp; omega))
  clear hb
  go_wp2
  go_ret
  exact ⟨rfl, hB⟩
/-- P15.2: the law RecordBack. -/
theorem back_law (s : ByteArray) (r1 r2 : R) (w : World) (hs : s.size ≤ maxLen) (w1 : r1.wf) (w2 : r2.wf) :
    Calls Try.prog 6 #[.agg (rc r1), .agg (rc r2), .string s] w fun e w' => e = .returned (.bool true) ∧ Below w.heap.size w w' := by
  by_cases h3 : s.size ≤ 3000
  · by_cases hE : (tR s.data.toList).2 = 0
    · have hg : tR s.data.toList = ((tR s.data.toList).1, 0) := by rw [← hE]
      by_cases ha : r1.may
      · by_cases hb : r2.may
        · cases hp : pre (bs r2.text) (bs r1.text) with
          | true => exact back_p1 s r1 r2 w hs h3 w1 w2 ha hb hp (text_prefix w1 w2 ha hb (of_decide_eq_true hp)) _ hg
          | false => exact back_q1 s r1 r2 w hs h3 w1 w2 ha hb hp _ hg
        · exact back_o1 s r1 r2 w hs h3 w1 w2 ha hb _ hg
      · exact back_n1 s r1 r2 w hs h3 w1 w2 ha _ hg
    · have hg : tR s.data.toList = (R.zero, (tR s.data.toList).2) := by rw [← tR_none hE]
      by_cases ha : r1.may
      · by_cases hb : r2.may
        · cases hp : pre (bs r2.text) (bs r1.text) with
          | true => exact back_p2 s r1 r2 w hs h3 w1 w2 ha hb hp (text_prefix w1 w2 ha hb (of_decide_eq_true hp)) _ hE hg
          | false => exact back_q2 s r1 r2 w hs h3 w1 w2 ha hb hp _ hE hg
        · exact back_o2 s r1 r2 w hs h3 w1 w2 ha hb _ hE hg
      · exact back_n2 s r1 r2 w hs h3 w1 w2 ha _ hE hg
  · exact back_long s r1 r2 w hs (by omega)
end Go.Proofs.Ytghgefiaijfbgaa.Rec
