/- The laws of the layer crc, but CrcBurst: each answers true, whatever it is given. Condition: the world holds the table. -/
import Derived.Test.YtakbdkfgdgkblaaDoorWalkJ
namespace Go.Proofs.YtakbdkfgdgkblaaDoor.CrcWalk
open Go.RowKit Go.Proofs.YtakbdkfgdgkblaaDoor.Crc
set_option linter.unusedVariables false
theorem below_eq {w w' : World} (h : w = w') : Below w.heap.size w w' := h ▸ Below.refl _ _
set_option maxRecDepth 100000 in
theorem sums_law (c : Nat) (s : ByteArray) (w : World) (hc : c < 4294967296) (hs : s.size ≤ maxLen) (hT : Tab w) :
    Calls Tryd.prog 3 #[.int .u32 c, .string s] w fun e w' => e = .returned (.bool true) ∧ w = w' := by
  have hs' := hs
  unfold maxLen at hs'
  by_cases h : s.size ≤ 20000
  · go_enter Tryd.func3, Tryd.ntmps3
    go_wp2_with (first | (go_at_call 10; refine (sum_any _ _ hs hT).mono ?_; rintro e w' ⟨rfl, rfl⟩) | (go_at_call 11; refine (rsum_any _ _ hs).mono ?_; rintro e w' ⟨rfl, rfl⟩) | (go_at_call 12; refine (update_any _ _ _ hc hs hT).mono ?_; rintro e w' ⟨rfl, rfl⟩) | (go_at_call 13; refine (rupdate_any _ _ _ hc hs).mono ?_; rintro e w' ⟨rfl, rfl⟩) | (go_at_call 9; refine (awake_any _ hT).mono ?_; rintro e w' ⟨rfl, rfl⟩))
    go_ret
    exact ⟨rfl, rfl⟩
  · go_enter Tryd.func3, Tryd.ntmps3
    go_wp2_with (go_at_call 9; refine (awake_any _ hT).mono ?_; rintro e w' ⟨rfl, rfl⟩)
    go_ret
    exact ⟨rfl, rfl⟩
set_option maxRecDepth 100000 in
theorem joins_law (a b : Nat) (n : Int) (w : World) (ha : a < 4294967296) (hb : b < 4294967296) (hn0 : -9223372036854775808 ≤ n) (hn1 : n ≤ 9223372036854775807) (hT : Tab w) :
    Calls Tryd.prog 4 #[.int .u32 a, .int .u32 b, .int .i64 n] w fun e w' => e = .returned (.bool true) ∧ Below w.heap.size w w' := by
  by_cases h : n ≤ 20000
  · go_enter Tryd.func4, Tryd.ntmps4
    go_wp2_with fail
    refine (join_any a b n w ha hb hT).mono ?_; rintro e w' ⟨rfl, rfl⟩
    go_wp2_with fail
    refine (rjoin_any a b n w ha hb hn0 hn1).mono ?_; rintro e w' ⟨rfl, hw⟩
    go_wp2_with fail
    refine (awake_any w' (tab_below hT hw)).mono ?_; rintro e w1 ⟨rfl, rfl⟩
    go_wp2
    go_ret
    exact ⟨rfl, hw⟩
  · by_cases h' : n ≤ 1048576
    · go_enter Tryd.func4, Tryd.ntmps4
      go_wp2_with (go_at_call 9; refine (awake_any _ hT).mono ?_; rintro e w' ⟨rfl, rfl⟩)
      go_ret
      exact ⟨rfl, Below.refl _ _⟩
    · go_enter Tryd.func4, Tryd.ntmps4
      go_wp2_with fail
      refine (join_any a b n w ha hb hT).mono ?_; rintro e w' ⟨rfl, rfl⟩
      go_wp2_with fail
      refine (rjoin_any a b n w ha hb hn0 hn1).mono ?_; rintro e w' ⟨rfl, hw⟩
      go_wp2_with fail
      refine (awake_any w' (tab_below hT hw)).mono ?_; rintro e w1 ⟨rfl, rfl⟩
      go_wp2
      go_ret
      exact ⟨rfl, hw⟩
theorem sum_val (s : ByteArray) (v : Int) (w : World) (hs : s.size ≤ maxLen) (hT : Tab w) (h : ((crc 0 s.data.toList : Nat) : Int) = v) :
    Calls Tryd.prog 10 #[.string s] w fun e w' => e = .returned (.int .u32 v) ∧ w = w' := h ▸ sum_any s w hs hT
theorem update_val (c : Int) (s : ByteArray) (v : Int) (w : World) (hc : 0 ≤ c ∧ c < 4294967296) (hs : s.size ≤ maxLen) (hT : Tab w) (h : ((crc c.toNat s.data.toList : Nat) : Int) = v) :
    Calls Tryd.prog 12 #[.int .u32 c, .string s] w fun e w' => e = .returned (.int .u32 v) ∧ w = w' := by
  obtain ⟨n, rfl⟩ : ∃ n : Nat, c = n := ⟨c.toNat, by omega⟩
  rw [Int.toNat_natCast] at h
  exact h ▸ update_any n s w (by omega) hs hT
theorem join_val (a b : Int) (n : Int) (v : Int) (w : World) (ha : 0 ≤ a ∧ a < 4294967296) (hb : 0 ≤ b ∧ b < 4294967296) (hT : Tab w) (h : ((join a.toNat b.toNat (cut n) : Nat) : Int) = v) :
    Calls Tryd.prog 14 #[.int .u32 a, .int .u32 b, .int .i64 n] w fun e w' => e = .returned (.int .u32 v) ∧ w = w' := by
  obtain ⟨x, rfl⟩ : ∃ n : Nat, a = n := ⟨a.toNat, by omega⟩
  obtain ⟨y, rfl⟩ : ∃ n : Nat, b = n := ⟨b.toNat, by omega⟩
  rw [Int.toNat_natCast, Int.toNat_natCast] at h
  exact h ▸ join_any x y n w (by omega) (by omega) hT
set_option maxRecDepth 100000 in
theorem known_law (w : World) (hT : Tab w) : Calls Tryd.prog 5 #[] w fun e w' => e = .returned (.bool true) ∧ w = w' := by
  go_enter Tryd.func5, Tryd.ntmps5
  go_wp2_with fail
  refine (sum_val _ 3904355907 w (by decide) hT (by decide +kernel)).mono ?_; rintro e w' ⟨rfl, rfl⟩
  go_wp2_with fail
  refine (sum_val _ 3523407757 w (by decide) hT (by decide +kernel)).mono ?_; rintro e w' ⟨rfl, rfl⟩
  go_wp2_with fail
  refine (sum_val _ 2615402659 w (by decide) hT (by decide +kernel)).mono ?_; rintro e w' ⟨rfl, rfl⟩
  go_wp2_with fail
  refine (update_val 2615402659 _ 3421780262 w (by decide) (by decide) hT (by decide +kernel)).mono ?_; rintro e w' ⟨rfl, rfl⟩
  go_wp2_with fail
  refine (sum_val _ 2615402659 w (by decide) hT (by decide +kernel)).mono ?_; rintro e w' ⟨rfl, rfl⟩
  go_wp2_with fail
  refine (sum_val ⟨#[53, 54, 55, 56, 57]⟩ 320708720 w (by decide) hT (by decide +kernel)).mono ?_; rintro e w' ⟨rfl, rfl⟩
  go_wp2_with fail
  refine (join_val 2615402659 320708720 5 3421780262 w (by decide) (by decide) hT (by decide +kernel)).mono ?_; rintro e w' ⟨rfl, rfl⟩
  go_wp2_with fail
  refine (sum_val _ 558161692 w (by decide) hT (by decide +kernel)).mono ?_; rintro e w' ⟨rfl, rfl⟩
  go_wp2_with fail
  refine (awake_any _ hT).mono ?_; rintro e w' ⟨rfl, rfl⟩
  go_wp2
  go_ret
  exact ⟨rfl, rfl⟩
theorem append_toList (a b : ByteArray) : (a ++ b).data.toList = a.data.toList ++ b.data.toList := by simp
set_option maxRecDepth 100000 in
theorem parts_law (a b : ByteArray) (w : World) (ha : a.size ≤ maxLen) (hb : b.size ≤ maxLen) (hT : Tab w) :
    Calls Tryd.prog 6 #[.string a, .string b] w fun e w' => e = .returned (.bool true) ∧ w = w' := by
  have hs1 := ha
  have hs2 := hb
  unfold maxLen at hs1 hs2
  by_cases h1 : a.size ≤ 20000
  · by_cases h2 : b.size ≤ 20000
    · have hab : (a ++ b).size ≤ maxLen := by unfold maxLen; simp; omega
      obtain ⟨x, hx⟩ : ∃ x, x = crc 0 a.data.toList := ⟨_, rfl⟩
      obtain ⟨y, hy⟩ : ∃ y, y = crc 0 b.data.toList := ⟨_, rfl⟩
      obtain ⟨v, hv⟩ : ∃ v, v = crc 0 (a.data.toList ++ b.data.toList) := ⟨_, rfl⟩
      have xl : x < 4294967296 := by rw [hx]; exact crc_lt (by decide) _
      have yl : y < 4294967296 := by rw [hy]; exact crc_lt (by decide) _
      have k1 := sum_val (a ++ b) v w hab hT (by rw [append_toList, hv])
      have k2 := sum_val a x w ha hT (by rw [hx])
      have k3 := sum_val b y w hb hT (by rw [hy])
      have k4 := update_val x b v w (by omega) hb hT (by rw [Int.toNat_natCast, hx, ← crc_append, hv])
      have k5 := join_val x y b.size v w (by omega) (by omega) hT (by
        rw [Int.toNat_natCast, Int.toNat_natCast, hx, hy, hv, ← crc_join]
        congr 2
        unfold cut
        rw [if_neg (by omega), if_neg (by omega), Int.toNat_natCast]; simp)
      have K1 := Lib.hid k1
      have K2 := Lib.hid k2
      have K3 := Lib.hid k3
      have K4 := Lib.hid k4
      have K5 := Lib.hid k5
      clear k1 k2 k3 k4 k5 hx hy hv
      go_enter Tryd.func6, Tryd.ntmps6
      go_wp2_with fail
      refine K1.out.mono ?_; rintro e w' ⟨rfl, rfl⟩
      go_wp2_with fail
      refine K2.out.mono ?_; rintro e w' ⟨rfl, rfl⟩
      go_wp2_with fail
      refine K4.out.mono ?_; rintro e w' ⟨rfl, rfl⟩
      go_wp2_with fail
      refine K2.out.mono ?_; rintro e w' ⟨rfl, rfl⟩
      go_wp2_with fail
      refine K3.out.mono ?_; rintro e w' ⟨rfl, rfl⟩
      go_wp2_with fail
      refine K5.out.mono ?_; rintro e w' ⟨rfl, rfl⟩
      go_wp2_with fail
      refine (awake_any _ hT).mono ?_; rintro e w' ⟨rfl, rfl⟩
      go_wp2
      go_ret
      exact ⟨rfl, rfl⟩
    · go_enter Tryd.func6, Tryd.ntmps6
      go_wp2_with (go_at_call 9; refine (awake_any _ hT).mono ?_; rintro e w' ⟨rfl, rfl⟩)
      go_ret
      exact ⟨rfl, rfl⟩
  · go_enter Tryd.func6, Tryd.ntmps6
    go_wp2_with (go_at_call 9; refine (awake_any _ hT).mono ?_; rintro e w' ⟨rfl, rfl⟩)
    go_ret
    exact ⟨rfl, rfl⟩
theorem four_conv (w : World) (a b c d : Int) : (convert 30 9 (.slice (some ⟨w.heap.size, 0, none⟩) 4 4)).run Tryd.prog (w.alloc (.cells #[.int .u8 a, .int .u8 b, .int .u8 c, .int .u8 d] 5)) = .ok (.string (strOfNums [a, b, c, d])) (w.alloc (.cells #[.int .u8 a, .int .u8 b, .int .u8 c, .int .u8 d] 5)) := by
  refine run_convert_bytes_arg _ 30 5 Tryd.underlying30 Tryd.underlying5 w.heap.size 0 4 4 [a, b, c, d] rfl (fun i hi => ?_) 9 Tryd.underlying9
  rw [Nat.zero_add, World.cell?_alloc_new]
  obtain rfl | rfl | rfl | rfl : i = 0 ∨ i = 1 ∨ i = 2 ∨ i = 3 := by omega
  all_goals rfl
theorem four_V (x : Nat) (hx : x < 4294967296) : V (strOfNums [(x : Int) % 256, (x : Int) / 256 % 256, (x : Int) / 65536 % 256, (x : Int) / 16777216]).data.toList = x := by
  have e (n : Nat) (h : n < 256) : (UInt8.ofNat ((n : Int)).toNat).toNat = n := by rw [Int.toNat_natCast, UInt8.toNat_ofNat', Nat.mod_eq_of_lt (by omega)]
  have e0 := e (x % 256) (by omega)
  have e1 := e (x / 256 % 256) (by omega)
  have e2 := e (x / 65536 % 256) (by omega)
  have e3 := e (x / 16777216) (by omega)
  show V [UInt8.ofNat ((x : Int) % 256).toNat, UInt8.ofNat ((x : Int) / 256 % 256).toNat, UInt8.ofNat ((x : Int) / 65536 % 256).toNat, UInt8.ofNat ((x : Int) / 16777216).toNat] = x
  simp only [V]
  have c0 : ((x : Int) % 256) = ((x % 256 : Nat) : Int) := by omega
  have c1 : ((x : Int) / 256 % 256) = ((x / 256 % 256 : Nat) : Int) := by omega
  have c2 : ((x : Int) / 65536 % 256) = ((x / 65536 % 256 : Nat) : Int) := by omega
  have c3 : ((x : Int) / 16777216) = ((x / 16777216 : Nat) : Int) := by omega
  rw [c0, c1, c2, c3, e0, e1, e2, e3]
  omega
set_option maxRecDepth 100000 in
theorem tail_law (s : ByteArray) (w : World) (hs : s.size ≤ maxLen) (hT : Tab w) :
    Calls Tryd.prog 8 #[.string s] w fun e w' => e = .returned (.bool true) ∧ Below w.heap.size w w' := by
  have hs1 := hs
  unfold maxLen at hs1
  by_cases h1 : s.size ≤ 20000
  · obtain ⟨x, hx⟩ : ∃ x, x = crc 0 s.data.toList := ⟨_, rfl⟩
    have xl : x < 4294967296 := by rw [hx]; exact crc_lt (by decide) _
    have k2 := sum_val s x w hs hT (by rw [hx])
    have K2 := Lib.hid k2
    have hcv := four_conv w ((x : Int) % 256) ((x : Int) / 256 % 256) ((x : Int) / 65536 % 256) ((x : Int) / 16777216)
    obtain ⟨t, ht⟩ : ∃ t, t = strOfNums [(x : Int) % 256, (x : Int) / 256 % 256, (x : Int) / 65536 % 256, (x : Int) / 16777216] := ⟨_, rfl⟩
    have ht4 : t.size = 4 := by rw [ht]; rfl
    have htV : V t.data.toList = x := by rw [ht]; exact four_V x xl
    have hT1 := tab_alloc hT (.cells #[.int .u8 ((x : Int) % 256), .int .u8 ((x : Int) / 256 % 256), .int .u8 ((x : Int) / 65536 % 256), .int .u8 ((x : Int) / 16777216)] 5)
    have k3 := sum_val (s ++ t) 558161692 _ (by unfold maxLen; simp; omega) hT1 (by
      rw [append_toList, crc_append, ← hx, tail_le x t.data.toList (by simpa using ht4) htV]; rfl)
    have K3 := Lib.hid k3
    rw [← ht] at hcv
    have ht5 : t.size ≤ 4 := by omega
    clear k2 k3 hx ht ht4 htV
    go_enter Tryd.func8, Tryd.ntmps8
    go_wp2_with fail
    refine K2.out.mono ?_; rintro e w' ⟨rfl, rfl⟩
    go_wp2_with fail
    refine K3.out.mono ?_; rintro e w' ⟨rfl, rfl⟩
    go_wp2_with fail
    refine (awake_any _ hT1).mono ?_; rintro e w' ⟨rfl, rfl⟩
    go_wp2
    go_ret
    exact ⟨rfl, (Below.refl _ _).alloc (Nat.le_refl _) _⟩
  · go_enter Tryd.func8, Tryd.ntmps8
    go_wp2_with (go_at_call 9; refine (awake_any _ hT).mono ?_; rintro e w' ⟨rfl, rfl⟩)
    go_ret
    exact ⟨rfl, Below.refl _ _⟩
end Go.Proofs.YtakbdkfgdgkblaaDoor.CrcWalk
