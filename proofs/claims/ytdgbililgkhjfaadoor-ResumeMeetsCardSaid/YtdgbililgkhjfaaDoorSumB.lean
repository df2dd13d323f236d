/- What the document's functions of the layer crc answer, as plain numbers: each by a walk of its own. No condition but the sizes. -/
import Derived.Test.YtdgbililgkhjfaaDoorSumA
import Derived.Laws.BytesArg
import Derived.Deep.OwnRows
namespace Go.Proofs.YtdgbililgkhjfaaDoor.CrcWalk
open Go.RowKit Go.Proofs.YtdgbililgkhjfaaDoor.Crc
set_option linter.unusedVariables false
theorem tab_below {w w' : World} (h : Tab w) (hb : Below w.heap.size w w') : Tab w' := fun i hi =>
  (hb.cell (World.block_lt_of_cell? w _ (h i hi))).trans (h i hi)
theorem tab_alloc {w : World} (h : Tab w) (o : Obj) : Tab (w.alloc o) := tab_below h ((Below.refl _ _).alloc (Nat.le_refl _) _)
theorem S_bit (c b : Nat) (hb : b < 2) : S (c ^^^ b) = if c % 2 = b then c / 2 else c / 2 ^^^ 3988292384 := by
  unfold S P
  rw [Nat.xor_div_two, xor_mod2, show b / 2 = 0 by omega, Nat.xor_zero]
  by_cases h : c % 2 = b
  · rw [if_pos h, show (c + b) % 2 = 0 by omega, Nat.zero_mul, Nat.xor_zero]
  · rw [if_neg h, show (c + b) % 2 = 1 by omega, Nat.one_mul]
set_option maxRecDepth 100000 in
/-- What the document's 'Step' answers: a bit. -/
theorem rstep_any (c b : Nat) (w : World) (hc : c < 4294967296) (hb : b < 2) :
    Calls Tryd.prog 121 #[.int .u32 c, .int .u32 b] w fun e w' => e = .returned (.int .u32 (S (c ^^^ b) : Nat)) ∧ w = w' := by
  have e1 : bits .and .u32 (c : Int) 1 = ((c % 2 : Nat) : Int) := by
    have := u32_and_nat c 1 hc (by omega)
    rw [show ((1 : Nat) : Int) = 1 from rfl] at this
    rw [this]
    exact congrArg _ (Nat.and_two_pow_sub_one_eq_mod c 1)
  have e2 : bits .xor .u32 ((c : Int) / 2) 3988292384 = ((c / 2 ^^^ 3988292384 : Nat) : Int) := by
    have := u32_xor_nat (c / 2) 3988292384 (by omega) (by omega)
    rw [← this]; rfl
  have H := Lib.hid (S_bit c b hb)
  obtain ⟨m, hm⟩ : ∃ m, m = c % 2 := ⟨_, rfl⟩
  rw [← hm] at e1 H
  have hm2 : m < 2 := by omega
  by_cases h : m = b
  · have t1 : ((m : Int) != (b : Int)) = false := by simp [h]
    have hr := H.out
    rw [if_pos h] at hr
    have H2 := Lib.hid hr
    clear H hr hm h
    go_enter Tryd.func121, Tryd.ntmps121
    go_wp2
    go_ret
    rw [H2.out]
    exact ⟨rfl, rfl⟩
  · have t1 : ((m : Int) != (b : Int)) = true := by simp; omega
    have hr := H.out
    rw [if_neg h] at hr
    have H2 := Lib.hid hr
    clear H hr hm h
    go_enter Tryd.func121, Tryd.ntmps121
    go_wp2
    go_ret
    rw [H2.out]
    exact ⟨rfl, rfl⟩
theorem bit_next (c b j x : Nat) (h : c ^^^ b = It j x) : S (c ^^^ b % 2) ^^^ b / 2 = It (j + 1) x := by
  have e : S (c ^^^ b) = S (c ^^^ b % 2) ^^^ b / 2 := by
    have hb : b = b % 2 ^^^ 2 ^ 1 * (b / 2) := by rw [xor_high 1 _ _ (by omega)]; omega
    have : S (c ^^^ (b % 2 ^^^ 2 ^ 1 * (b / 2))) = S (c ^^^ b % 2) ^^^ b / 2 := by
      rw [← Nat.xor_assoc, S_xor, show 2 ^ 1 * (b / 2) = 2 * (b / 2) from rfl, S_double]
    rwa [← hb] at this
  rw [← e, h, It_add]; rfl
set_option maxRecDepth 100000 in
/-- What the document's 'Update' answers. -/
theorem rupdate_any (c : Nat) (s : ByteArray) (w : World) (hc : c < 4294967296) (hs : s.size ≤ maxLen) :
    Calls Tryd.prog 117 #[.int .u32 c, .string s] w fun e w' => e = .returned (.int .u32 (crc c s.data.toList : Nat)) ∧ w = w' := by
  unfold maxLen at hs
  obtain ⟨d, hd⟩ : ∃ d, d = c ^^^ M := ⟨_, rfl⟩
  have hd1 : d < 4294967296 := by rw [hd]; exact Nat.xor_lt_two_pow (n := 32) hc (by decide)
  have e1 : bits .xor .u32 (c : Int) 4294967295 = (d : Int) := by
    have := u32_xor_nat c M hc (by decide)
    rw [← hd] at this
    exact this
  have H : Hid (crc c s.data.toList = upd d s.data.toList ^^^ M) := Lib.hid (by rw [hd]; rfl)
  clear hd
  go_enter Tryd.func117, Tryd.ntmps117
  go_wp2
  clear e1
  go_loop [0, 5] (fun x i => ∃ k : Nat, k ≤ s.size ∧ i = .int .i64 k ∧ x = .int .u32 (upd d (s.data.toList.take k) : Nat)) (fun _ i => s.size - (intOf i).toNat)
  case atStart => exact ⟨0, Nat.zero_le _, rfl, rfl⟩
  case round =>
    obtain ⟨k, hk, rfl, rfl⟩ := hrel
    have hu := upd_lt hd1 (s.data.toList.take k)
    by_cases hlt : k < s.size
    · have HS := Lib.hid (upd_snoc d s.data.toList k (by simpa using hlt))
      obtain ⟨u, eu⟩ : ∃ u, u = upd d (s.data.toList.take k) := ⟨_, rfl⟩
      rw [← eu] at hu HS ⊢
      clear eu
      obtain ⟨y, hy⟩ : ∃ y : Nat, y = s.data.toList[k].toNat := ⟨_, rfl⟩
      have hyl : y < 256 := by rw [hy]; exact UInt8.toNat_lt _
      go_wp2
      go_loop [0, 6, 7] (fun x v j => ∃ c' b' j' : Nat, j' ≤ 8 ∧ c' < 4294967296 ∧ b' < 256 ∧ j = .int .i64 j' ∧ v = .int .u32 b' ∧ x = .int .u32 c' ∧ c' ^^^ b' = It j' (u ^^^ y) ∧ b' = y / 2 ^ j') (fun _ _ j => 8 - (intOf j).toNat)
      case atStart => exact ⟨u, y, 0, Nat.zero_le _, hu, hyl, rfl, by rw [hy]; have hb := UInt8.toNat_lt s[k]; congr 1; show ((s[k].toNat : Nat) : Int) % 4294967296 = ((s[k].toNat : Nat) : Int); omega, rfl, rfl, by simp⟩
      case round =>
        obtain ⟨c', b', j, hj, hc', hb', rfl, rfl, rfl, hcb, hbj⟩ := hrel
        by_cases hlt8 : j < 8
        · have hn := Lib.hid (bit_next c' b' j (u ^^^ y) hcb)
          have hb2 : b' / 2 = y / 2 ^ (j + 1) := by rw [hbj, Nat.pow_succ, Nat.div_div_eq_div_mul]
          have HB2 := Lib.hid hb2
          have hs1 : S (c' ^^^ b' % 2) < 2 ^ 32 := S_lt (Nat.xor_lt_two_pow hc' (by omega))
          clear hcb hbj hb2 hy
          go_wp2_with (go_at_call 121; refine (rstep_any c' (b' % 2) w hc' (Nat.mod_lt _ (by decide))).mono ?_; rintro e w' ⟨rfl, rfl⟩)
          go_round
          case rel => exact ⟨S (c' ^^^ b' % 2), b' / 2, j + 1, by omega, hs1, by omega, by go_num, rfl, rfl, hn.out, HB2.out⟩
          case measure => simp [intOf]; omega
        · obtain rfl : j = 8 := by omega
          have hb0 : b' = 0 := by rw [hbj]; exact Nat.div_eq_of_lt hyl
          have hfin : Hid (c' = B u s.data.toList[k].toNat) := Lib.hid (by rw [← hy]; rw [hb0, Nat.xor_zero] at hcb; exact hcb)
          clear hcb hbj hb0 hy
          go_wp2
          go_round
          case rel => exact ⟨k + 1, by omega, by go_num, by rw [HS.out, hfin.out]⟩
          case measure => simp [intOf]; omega
    · obtain rfl : k = s.size := by omega
      have e2 : bits .xor .u32 ((upd d (s.data.toList.take s.size) : Nat) : Int) 4294967295 = ((crc c s.data.toList : Nat) : Int) := by
        have := u32_xor_nat (upd d (s.data.toList.take s.size)) M hu (by decide)
        rw [List.take_of_length_le (by simp), ← H.out] at this
        rw [List.take_of_length_le (by simp)]
        exact this
      clear H
      go_wp2
      go_ret
      exact ⟨rfl, rfl⟩
set_option maxRecDepth 100000 in
/-- What the document's 'Sum' answers. -/
theorem rsum_any (s : ByteArray) (w : World) (hs : s.size ≤ maxLen) :
    Calls Tryd.prog 102 #[.string s] w fun e w' => e = .returned (.int .u32 (crc 0 s.data.toList : Nat)) ∧ w = w' := by
  go_enter Tryd.func102, Tryd.ntmps102
  go_wp2_with (go_at_call 117; refine (rupdate_any 0 s w (by decide) hs).mono ?_; rintro e w' ⟨rfl, rfl⟩)
  go_ret
  exact ⟨rfl, rfl⟩
end Go.Proofs.YtdgbililgkhjfaaDoor.CrcWalk
