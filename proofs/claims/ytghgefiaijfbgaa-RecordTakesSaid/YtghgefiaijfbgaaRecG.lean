/- What the document's 'long', 'number' and 'Long' answer: walked. Conditions: sizes. -/
import Derived.Test.YtghgefiaijfbgaaRecF
namespace Go.Proofs.Ytghgefiaijfbgaa.Rec
open Go.RowKit Go.Proofs.Ytghgefiaijfbgaa.Crc Go.Proofs.Ytghgefiaijfbgaa.Codec
set_option linter.unusedVariables false
/-- The row of eight bytes, k of them written. -/
def row8 (n k : Nat) : Array Value := ((leB n k).map bc ++ List.replicate (8 - k) (Value.int .u8 0)).toArray
theorem row8_size {n k : Nat} (h : k ≤ 8) : (row8 n k).size = 8 := by simp [row8, leB_length]; omega
theorem row8_at {n k : Nat} (h : k < 8) : (row8 n k)[k]? = some (.int .u8 0) := by
  have : (leB n k).length = k := leB_length k n
  simp only [row8, List.getElem?_toArray]
  rw [List.getElem?_append_right (by simp [this]), List.length_map, this, Nat.sub_self, List.getElem?_replicate, if_pos (by omega)]
theorem row8_set {n k : Nat} (h : k < 8) : (row8 n k).setIfInBounds k (.int .u8 (n / 256 ^ k % 256 : Nat)) = row8 n (k + 1) := by
  have hl : (leB n k).length = k := leB_length k n
  obtain ⟨j, hj⟩ : ∃ j, 8 - k = j + 1 := ⟨7 - k, by omega⟩
  have hb : (UInt8.ofNat (n / 256 ^ k % 256)).toNat = n / 256 ^ k % 256 := by rw [UInt8.toNat_ofNat']; omega
  apply Array.toList_inj.1
  simp only [row8, Array.toList_setIfInBounds, List.toList_toArray]
  rw [leB_snoc, hj, List.replicate_succ, List.set_append_right _ _ (by simp [hl]), show 8 - (k + 1) = j by omega]
  simp [hl, bc, hb]
theorem own8 {w : World} {g n : Nat} (hb : Blk w g (row8 n 8) 5) : w.ownsRow g 5 1 (.slice (some ⟨g, 0, none⟩) 8 8) 8 ((leB n 8).map bc) :=
  ⟨by simp [leB_length], .inr ⟨g, 8, row8 n 8, rfl, Nat.le_refl _, hb, Nat.le_refl _, by unfold maxLen; decide, by rw [row8_size (Nat.le_refl _)], by simp only [row8, Nat.sub_self, List.replicate_zero, List.append_nil]; exact List.take_of_length_le (by simp [leB_length])⟩⟩
set_option maxRecDepth 100000 in
/-- What the document's 'long' answers. -/
theorem long_any (n : Nat) (w : World) (hn : n < 18446744073709551616) :
    Calls Try.prog 21 #[.int .u64 n] w fun r w' => r = .returned (.string (bs (leB n 8))) ∧ Below w.heap.size w w' := by
  have hmk : ∀ W, (Instr.makeSlice 46 (.int .i64 8) (.int .i64 8)).run Try.prog W = .ok (.slice (some ⟨W.heap.size, 0, none⟩) 8 8) (W.alloc (.cells (row8 n 0) 5)) := fun W => by
    have e : row8 n 0 = madeCells #[.int .u8 0] 8 := by apply Array.toList_inj.1; rw [toList_madeCells_one]; simp [row8, leB]
    rw [e]
    exact run_make_row' (P := Try.prog) 46 5 (.int .u8 0) 1 Try.underlying46 info5 rfl .i64 .i64 8 (by decide) (by decide) W
  go_enter Try.func21, Try.ntmps21
  go_wp2
  go_loopw [0, 4] (fun x i wr => ∃ k : Nat, k ≤ 8 ∧ i = .int .i64 k ∧ x = .int .u64 (n / 256 ^ k : Nat) ∧ Blk wr w.heap.size (row8 n k) 5 ∧ Below w.heap.size w wr) (fun _ i _ => 8 - (intOf i).toNat)
  case atStart => exact ⟨0, Nat.zero_le _, rfl, by simp, heap_alloc_new w _, (Below.refl _ w).alloc (Nat.le_refl _) _⟩
  case round =>
    obtain ⟨k, hk, rfl, rfl, hb, hbel⟩ := hrel
    by_cases hlt : k < 8
    · obtain ⟨m, hm⟩ : ∃ m, m = n / 256 ^ k := ⟨_, rfl⟩
      have hm2 : m / 256 = n / 256 ^ (k + 1) := by rw [hm, Nat.div_div_eq_div_mul, Nat.pow_succ]
      have hml : m < 18446744073709551616 := by rw [hm]; exact Nat.lt_of_le_of_lt (Nat.div_le_self _ _) hn
      have hset := row8_set (n := n) hlt
      rw [← hm] at hset ⊢
      have c0 : wr.cell? ⟨w.heap.size, k, none⟩ = some (.int .u8 0) := hb.cell _ (row8_at hlt)
      have f0 : wr.frozen? ⟨w.heap.size, k, none⟩ = false := hb.free
      have hb' := hb.set (off := k) (.int .u8 (m % 256 : Nat))
      rw [hset] at hb'
      have hbel' := hbel.setCell (p := ⟨w.heap.size, k, none⟩) (Nat.le_refl _) (.int .u8 (m % 256 : Nat))
      have HM := Lib.hid hm2
      have HB := Lib.hid hb'
      have HL := Lib.hid hbel'
      clear hset hm hm2 hb hbel hb' hbel'
      go_wp2
      go_roundw
      case rel => exact ⟨k + 1, by omega, by go_num, by rw [← HM.out]; simp, HB.out, HL.out⟩
      case measure => simp [intOf]; omega
    · obtain rfl : k = 8 := by omega
      have hcv := own_conv (own8 hb)
      have HL := Lib.hid hbel
      clear hb hbel
      go_wp2
      go_ret
      exact ⟨rfl, HL.out⟩
/-- A number of eight bytes of l from a place on: what is read when the last i bytes are still to come. -/
def numAt (l : List UInt8) (at_ i : Nat) : Nat := V ((l.drop (at_ + i)).take (8 - i))
theorem numAt_step {l : List UInt8} {a i : Nat} (hi : i < 8) (h : a + 8 ≤ l.length) : numAt l a i = numAt l a (i + 1) * 256 + (l[a + i]'(by omega)).toNat := by
  unfold numAt
  rw [List.drop_eq_getElem_cons (by omega : a + i < l.length), show 8 - i = (8 - (i + 1)) + 1 by omega, List.take_succ_cons, V, Nat.add_comm, Nat.mul_comm, Nat.add_assoc]
theorem numAt_lt (l : List UInt8) (a i : Nat) : numAt l a i < 256 ^ (8 - i) := V_take l (a + i) (8 - i)
set_option maxRecDepth 100000 in
/-- What the document's 'number' answers. -/
theorem number_any (s : ByteArray) (a : Nat) (w : World) (hs : s.size ≤ maxLen) (ha : a + 8 ≤ s.size) :
    Calls Try.prog 27 #[.string s, .int .i64 a] w fun r w' => r = .returned (.int .u64 (V ((s.data.toList.drop a).take 8) : Nat)) ∧ w = w' := by
  unfold maxLen at hs
  go_enter Try.func27, Try.ntmps27
  go_wp2
  go_loop [5, 6] (fun x i => (∃ j : Nat, j < 8 ∧ i = .int .i64 j ∧ x = .int .u64 (numAt s.data.toList a (j + 1) : Nat)) ∨ (i = .int .i64 (-1) ∧ x = .int .u64 (numAt s.data.toList a 0 : Nat))) (fun _ i => (intOf i + 1).toNat)
  case atStart => exact .inl ⟨7, by decide, rfl, by simp [numAt, V]⟩
  case round =>
    rcases hrel with ⟨j, hj, rfl, rfl⟩ | ⟨rfl, rfl⟩
    · have hl : s.data.toList.length = s.size := by simp
      have hst := numAt_step (l := s.data.toList) (a := a) hj (by omega)
      have hlt : numAt s.data.toList a (j + 1) < 72057594037927936 := Nat.lt_of_lt_of_le (numAt_lt _ _ _) (Nat.le_trans (Nat.pow_le_pow_right (by decide) (by omega : 8 - (j + 1) ≤ 7)) (by decide))
      obtain ⟨x, hx⟩ : ∃ x, x = numAt s.data.toList a (j + 1) := ⟨_, rfl⟩
      rw [← hx] at hst hlt ⊢
      have i1 : ((a : Int) + (j : Int)) < (s.size : Int) := by omega
      have i2 : a + j < s.size := by omega
      have hst' : numAt s.data.toList a j = x * 256 + (s[a + j]'i2).toNat := hst
      have hbl := UInt8.toNat_lt (s[a + j]'i2)
      have HST := Lib.hid hst'
      clear hst hst' hx
      go_wp2
      go_round
      case rel => 
        by_cases h0 : j = 0
        · subst h0
          exact .inr ⟨by go_num, by rw [HST.out]; go_num⟩
        · exact .inl ⟨j - 1, by omega, by go_num, by rw [show j - 1 + 1 = j by omega, HST.out]; go_num⟩
      case measure => simp [intOf]
    · go_wp2
      go_ret
      exact ⟨rfl, rfl⟩
set_option maxRecDepth 100000 in
theorem Long1 (w : World) : Calls Try.prog 26 #[.int .i64 1] w fun r w' => r = .returned (.int .i64 10) ∧ Below w.heap.size w w' := by
  go_enter Try.func26, Try.ntmps26
  go_wp2
  go_ret
  exact ⟨rfl, (Below.refl _ w).alloc (Nat.le_refl _) _⟩
set_option maxRecDepth 100000 in
theorem Long2 (w : World) : Calls Try.prog 26 #[.int .i64 2] w fun r w' => r = .returned (.int .i64 11) ∧ Below w.heap.size w w' := by
  go_enter Try.func26, Try.ntmps26
  go_wp2
  go_ret
  exact ⟨rfl, (Below.refl _ w).alloc (Nat.le_refl _) _⟩
set_option maxRecDepth 100000 in
theorem Long3 (w : World) : Calls Try.prog 26 #[.int .i64 3] w fun r w' => r = .returned (.int .i64 26) ∧ Below w.heap.size w w' := by
  go_enter Try.func26, Try.ntmps26
  go_wp2
  go_ret
  exact ⟨rfl, (Below.refl _ w).alloc (Nat.le_refl _) _⟩
/-- How many bytes the texts of a kind have. -/
theorem Long_any (k : Nat) (w : World) (hk : 1 ≤ k ∧ k ≤ 3) : Calls Try.prog 26 #[.int .i64 k] w fun r w' => r = .returned (.int .i64 (need k + 1 : Nat)) ∧ Below w.heap.size w w' := by
  have hk' : k = 1 ∨ k = 2 ∨ k = 3 := by omega
  rcases hk' with rfl | rfl | rfl
  · exact Long1 w
  · exact Long2 w
  · exact Long3 w
end Go.Proofs.Ytghgefiaijfbgaa.Rec
