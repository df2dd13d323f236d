/- What the codec's 'put' does to a writer, at each kind: walked. Condition: the writer's block, a row of its own. -/
import Derived.Test.YtdgbililgkhjfaaDoorCodec0
namespace Go.Proofs.YtdgbililgkhjfaaDoor.Codec
open Go.RowKit Go.Proofs.YtdgbililgkhjfaaDoor.Crc
set_option linter.unusedVariables false
set_option maxRecDepth 100000 in
/-- What 'put' does to a writer. -/
theorem put_u8 (p B n : Nat) (L : List UInt8) (width : Nat) (w : World) (hn : n < 256) (hwd : width ≤ 1) (hL : L.length ≤ 1000000) (hw : Wr w p B L) :
    Calls Tryd.prog 111 #[.pointer (some ⟨p, 0, none⟩), .int .u8 n, .int .i64 width] w fun e w' => e = .returned (.tuple #[]) ∧ Wr w' p B (L ++ leB n width) ∧ Kp B p w w' := by
  obtain ⟨i0, hi, hz0, hz1, hz2⟩ := info_parts info5
  go_enter Tryd.func111, Tryd.ntmps111
  go_wp2
  go_loopw [10] (fun i wr => ∃ k : Nat, k ≤ width ∧ i = .int .i64 k ∧ Wr wr p B (L ++ leB n k) ∧ Kp B p w wr) (fun i _ => width - (intOf i).toNat)
  case atStart => exact ⟨0, Nat.zero_le _, rfl, by rw [leB, List.append_nil]; exact hw, Kp.refl _ _ _⟩
  case round =>
    obtain ⟨k, hk, rfl, ⟨v, t, hc, hown, hpB, hB⟩, hkp⟩ := hrel
    by_cases hlt : k < width
    · have hcell := cell_of_one hc
      have hfrz := free_of_one hc
      have hlp := lt_of_block hc
      obtain ⟨m, hm⟩ : ∃ m, m = 8 * k := ⟨_, rfl⟩
      have hm0 : (0 : Int) ≤ (m : Int) := Int.natCast_nonneg _
      have hm1 : (m : Int) ≤ 64 := by omega
      obtain ⟨b, hb⟩ : ∃ b : UInt8, b = UInt8.ofNat (n / 256 ^ k % 256) := ⟨_, rfl⟩
      have e1 : IntKind.u64.wrap (n : Int) = (n : Int) := IntWalk.u64_in _ (by omega)
      have e2 : IntKind.i64.wrap (8 * (k : Int)) = (m : Int) := by rw [IntWalk.i64_in _ (by omega)]; omega
      have e4 : IntKind.u8.wrap ((n : Int) / 2 ^ m) = (b.toNat : Int) := by
        rw [IntKind.wrap_u8, hb, hm, UInt8.toNat_ofNat', Nat.mod_mod]
        exact (byte_div n k).symm
      have hsn := leB_snoc k n
      rw [← hb] at hsn
      have HS := Lib.hid hsn
      have hLk : (L ++ leB n k).length = L.length + k := by simp [leB_length]
      obtain ⟨LL, hLL⟩ : ∃ LL, LL = L ++ leB n k := ⟨_, rfl⟩
      rw [← hLL] at hown hLk
      have hlen1 : LL.length + 1 ≤ maxLen := by rw [hLk]; unfold maxLen; omega
      have hlen2 : (LL.length + 1) * 1 ≤ 140737488355328 := by rw [hLk]; omega
      have HL := Lib.hid hLL
      clear hLk hLL
      have hne := own_ne hown hpB
      clear hm hb hsn
      go_wp2
      go_region_law ((refine step_append_lies _ (by rfl) (.tmp 17) (.tmp 24) 47 (by rfl) B 5 i0 (.int .u8 0) 1 1 Tryd.underlying47 hi hz0 hz1 hz2 rfl (by decide) v _ _ (by rfl) ((hown.alloc _).drew) ⟨wr.heap.size, 0, none⟩ 1 1 [.int .u8 b.toNat] (by rfl) (by rfl) (World.news_of_block (cs := #[.int .u8 b.toNat]) (t := 5) (fr := (0, 0)) (heap_alloc_new wr _)) (by simp [Value.oneCell']) (by decide) hlen1 hlen2 (by simp; omega) (wr.heap.size + 1) (by simp) ?_; intro g cap w1 hown1 hgrow hat hlt1; have hc1 := grown_block hc hgrow hne; have hcell1 := cell_of_one hc1; have hfrz1 := free_of_one hc1))
      all_goals
        have hW1 := wr_push hc1 hown1 hpB (by have := hgrow.size; simp at this; omega)
        have hK1 := kp_push hkp hB hown hgrow (.slice (some ⟨g, 0, none⟩) (LL.length + 1) cap)
        have HW1 := Lib.hid hW1
        have HK1 := Lib.hid hK1
        clear hW1 hK1 hown hown1 hgrow hc1 hcell1 hfrz1 hc hcell hfrz
        go_wp2
        go_roundw
        case rel => exact ⟨k + 1, by omega, by go_num, by rw [HS.out, ← List.append_assoc, ← HL.out]; exact HW1.out, HK1.out⟩
        case measure => simp [intOf]; omega
    · obtain rfl : k = width := by omega
      go_wp2
      go_end0
      exact ⟨rfl, ⟨v, t, hc, hown, hpB, hB⟩, hkp⟩

set_option maxRecDepth 100000 in
/-- What 'put' does to a writer. -/
theorem put_u16 (p B n : Nat) (L : List UInt8) (width : Nat) (w : World) (hn : n < 65536) (hwd : width ≤ 2) (hL : L.length ≤ 1000000) (hw : Wr w p B L) :
    Calls Tryd.prog 114 #[.pointer (some ⟨p, 0, none⟩), .int .u16 n, .int .i64 width] w fun e w' => e = .returned (.tuple #[]) ∧ Wr w' p B (L ++ leB n width) ∧ Kp B p w w' := by
  obtain ⟨i0, hi, hz0, hz1, hz2⟩ := info_parts info5
  go_enter Tryd.func114, Tryd.ntmps114
  go_wp2
  go_loopw [10] (fun i wr => ∃ k : Nat, k ≤ width ∧ i = .int .i64 k ∧ Wr wr p B (L ++ leB n k) ∧ Kp B p w wr) (fun i _ => width - (intOf i).toNat)
  case atStart => exact ⟨0, Nat.zero_le _, rfl, by rw [leB, List.append_nil]; exact hw, Kp.refl _ _ _⟩
  case round =>
    obtain ⟨k, hk, rfl, ⟨v, t, hc, hown, hpB, hB⟩, hkp⟩ := hrel
    by_cases hlt : k < width
    · have hcell := cell_of_one hc
      have hfrz := free_of_one hc
      have hlp := lt_of_block hc
      obtain ⟨m, hm⟩ : ∃ m, m = 8 * k := ⟨_, rfl⟩
      have hm0 : (0 : Int) ≤ (m : Int) := Int.natCast_nonneg _
      have hm1 : (m : Int) ≤ 64 := by omega
      obtain ⟨b, hb⟩ : ∃ b : UInt8, b = UInt8.ofNat (n / 256 ^ k % 256) := ⟨_, rfl⟩
      have e1 : IntKind.u64.wrap (n : Int) = (n : Int) := IntWalk.u64_in _ (by omega)
      have e2 : IntKind.i64.wrap (8 * (k : Int)) = (m : Int) := by rw [IntWalk.i64_in _ (by omega)]; omega
      have e4 : IntKind.u8.wrap ((n : Int) / 2 ^ m) = (b.toNat : Int) := by
        rw [IntKind.wrap_u8, hb, hm, UInt8.toNat_ofNat', Nat.mod_mod]
        exact (byte_div n k).symm
      have hsn := leB_snoc k n
      rw [← hb] at hsn
      have HS := Lib.hid hsn
      have hLk : (L ++ leB n k).length = L.length + k := by simp [leB_length]
      obtain ⟨LL, hLL⟩ : ∃ LL, LL = L ++ leB n k := ⟨_, rfl⟩
      rw [← hLL] at hown hLk
      have hlen1 : LL.length + 1 ≤ maxLen := by rw [hLk]; unfold maxLen; omega
      have hlen2 : (LL.length + 1) * 1 ≤ 140737488355328 := by rw [hLk]; omega
      have HL := Lib.hid hLL
      clear hLk hLL
      have hne := own_ne hown hpB
      clear hm hb hsn
      go_wp2
      go_region_law ((refine step_append_lies _ (by rfl) (.tmp 17) (.tmp 24) 47 (by rfl) B 5 i0 (.int .u8 0) 1 1 Tryd.underlying47 hi hz0 hz1 hz2 rfl (by decide) v _ _ (by rfl) ((hown.alloc _).drew) ⟨wr.heap.size, 0, none⟩ 1 1 [.int .u8 b.toNat] (by rfl) (by rfl) (World.news_of_block (cs := #[.int .u8 b.toNat]) (t := 5) (fr := (0, 0)) (heap_alloc_new wr _)) (by simp [Value.oneCell']) (by decide) hlen1 hlen2 (by simp; omega) (wr.heap.size + 1) (by simp) ?_; intro g cap w1 hown1 hgrow hat hlt1; have hc1 := grown_block hc hgrow hne; have hcell1 := cell_of_one hc1; have hfrz1 := free_of_one hc1))
      all_goals
        have hW1 := wr_push hc1 hown1 hpB (by have := hgrow.size; simp at this; omega)
        have hK1 := kp_push hkp hB hown hgrow (.slice (some ⟨g, 0, none⟩) (LL.length + 1) cap)
        have HW1 := Lib.hid hW1
        have HK1 := Lib.hid hK1
        clear hW1 hK1 hown hown1 hgrow hc1 hcell1 hfrz1 hc hcell hfrz
        go_wp2
        go_roundw
        case rel => exact ⟨k + 1, by omega, by go_num, by rw [HS.out, ← List.append_assoc, ← HL.out]; exact HW1.out, HK1.out⟩
        case measure => simp [intOf]; omega
    · obtain rfl : k = width := by omega
      go_wp2
      go_end0
      exact ⟨rfl, ⟨v, t, hc, hown, hpB, hB⟩, hkp⟩

set_option maxRecDepth 100000 in
/-- What 'put' does to a writer. -/
theorem put_u32 (p B n : Nat) (L : List UInt8) (width : Nat) (w : World) (hn : n < 4294967296) (hwd : width ≤ 4) (hL : L.length ≤ 1000000) (hw : Wr w p B L) :
    Calls Tryd.prog 115 #[.pointer (some ⟨p, 0, none⟩), .int .u32 n, .int .i64 width] w fun e w' => e = .returned (.tuple #[]) ∧ Wr w' p B (L ++ leB n width) ∧ Kp B p w w' := by
  obtain ⟨i0, hi, hz0, hz1, hz2⟩ := info_parts info5
  go_enter Tryd.func115, Tryd.ntmps115
  go_wp2
  go_loopw [10] (fun i wr => ∃ k : Nat, k ≤ width ∧ i = .int .i64 k ∧ Wr wr p B (L ++ leB n k) ∧ Kp B p w wr) (fun i _ => width - (intOf i).toNat)
  case atStart => exact ⟨0, Nat.zero_le _, rfl, by rw [leB, List.append_nil]; exact hw, Kp.refl _ _ _⟩
  case round =>
    obtain ⟨k, hk, rfl, ⟨v, t, hc, hown, hpB, hB⟩, hkp⟩ := hrel
    by_cases hlt : k < width
    · have hcell := cell_of_one hc
      have hfrz := free_of_one hc
      have hlp := lt_of_block hc
      obtain ⟨m, hm⟩ : ∃ m, m = 8 * k := ⟨_, rfl⟩
      have hm0 : (0 : Int) ≤ (m : Int) := Int.natCast_nonneg _
      have hm1 : (m : Int) ≤ 64 := by omega
      obtain ⟨b, hb⟩ : ∃ b : UInt8, b = UInt8.ofNat (n / 256 ^ k % 256) := ⟨_, rfl⟩
      have e1 : IntKind.u64.wrap (n : Int) = (n : Int) := IntWalk.u64_in _ (by omega)
      have e2 : IntKind.i64.wrap (8 * (k : Int)) = (m : Int) := by rw [IntWalk.i64_in _ (by omega)]; omega
      have e4 : IntKind.u8.wrap ((n : Int) / 2 ^ m) = (b.toNat : Int) := by
        rw [IntKind.wrap_u8, hb, hm, UInt8.toNat_ofNat', Nat.mod_mod]
        exact (byte_div n k).symm
      have hsn := leB_snoc k n
      rw [← hb] at hsn
      have HS := Lib.hid hsn
      have hLk : (L ++ leB n k).length = L.length + k := by simp [leB_length]
      obtain ⟨LL, hLL⟩ : ∃ LL, LL = L ++ leB n k := ⟨_, rfl⟩
      rw [← hLL] at hown hLk
      have hlen1 : LL.length + 1 ≤ maxLen := by rw [hLk]; unfold maxLen; omega
      have hlen2 : (LL.length + 1) * 1 ≤ 140737488355328 := by rw [hLk]; omega
      have HL := Lib.hid hLL
      clear hLk hLL
      have hne := own_ne hown hpB
      clear hm hb hsn
      go_wp2
      go_region_law ((refine step_append_lies _ (by rfl) (.tmp 17) (.tmp 24) 47 (by rfl) B 5 i0 (.int .u8 0) 1 1 Tryd.underlying47 hi hz0 hz1 hz2 rfl (by decide) v _ _ (by rfl) ((hown.alloc _).drew) ⟨wr.heap.size, 0, none⟩ 1 1 [.int .u8 b.toNat] (by rfl) (by rfl) (World.news_of_block (cs := #[.int .u8 b.toNat]) (t := 5) (fr := (0, 0)) (heap_alloc_new wr _)) (by simp [Value.oneCell']) (by decide) hlen1 hlen2 (by simp; omega) (wr.heap.size + 1) (by simp) ?_; intro g cap w1 hown1 hgrow hat hlt1; have hc1 := grown_block hc hgrow hne; have hcell1 := cell_of_one hc1; have hfrz1 := free_of_one hc1))
      all_goals
        have hW1 := wr_push hc1 hown1 hpB (by have := hgrow.size; simp at this; omega)
        have hK1 := kp_push hkp hB hown hgrow (.slice (some ⟨g, 0, none⟩) (LL.length + 1) cap)
        have HW1 := Lib.hid hW1
        have HK1 := Lib.hid hK1
        clear hW1 hK1 hown hown1 hgrow hc1 hcell1 hfrz1 hc hcell hfrz
        go_wp2
        go_roundw
        case rel => exact ⟨k + 1, by omega, by go_num, by rw [HS.out, ← List.append_assoc, ← HL.out]; exact HW1.out, HK1.out⟩
        case measure => simp [intOf]; omega
    · obtain rfl : k = width := by omega
      go_wp2
      go_end0
      exact ⟨rfl, ⟨v, t, hc, hown, hpB, hB⟩, hkp⟩

set_option maxRecDepth 100000 in
/-- What 'put' does to a writer. -/
theorem put_u64 (p B n : Nat) (L : List UInt8) (width : Nat) (w : World) (hn : n < 18446744073709551616) (hwd : width ≤ 8) (hL : L.length ≤ 1000000) (hw : Wr w p B L) :
    Calls Tryd.prog 142 #[.pointer (some ⟨p, 0, none⟩), .int .u64 n, .int .i64 width] w fun e w' => e = .returned (.tuple #[]) ∧ Wr w' p B (L ++ leB n width) ∧ Kp B p w w' := by
  obtain ⟨i0, hi, hz0, hz1, hz2⟩ := info_parts info5
  go_enter Tryd.func142, Tryd.ntmps142
  go_wp2
  go_loopw [10] (fun i wr => ∃ k : Nat, k ≤ width ∧ i = .int .i64 k ∧ Wr wr p B (L ++ leB n k) ∧ Kp B p w wr) (fun i _ => width - (intOf i).toNat)
  case atStart => exact ⟨0, Nat.zero_le _, rfl, by rw [leB, List.append_nil]; exact hw, Kp.refl _ _ _⟩
  case round =>
    obtain ⟨k, hk, rfl, ⟨v, t, hc, hown, hpB, hB⟩, hkp⟩ := hrel
    by_cases hlt : k < width
    · have hcell := cell_of_one hc
      have hfrz := free_of_one hc
      have hlp := lt_of_block hc
      obtain ⟨m, hm⟩ : ∃ m, m = 8 * k := ⟨_, rfl⟩
      have hm0 : (0 : Int) ≤ (m : Int) := Int.natCast_nonneg _
      have hm1 : (m : Int) ≤ 64 := by omega
      obtain ⟨b, hb⟩ : ∃ b : UInt8, b = UInt8.ofNat (n / 256 ^ k % 256) := ⟨_, rfl⟩
      have e1 : IntKind.u64.wrap (n : Int) = (n : Int) := IntWalk.u64_in _ (by omega)
      have e2 : IntKind.i64.wrap (8 * (k : Int)) = (m : Int) := by rw [IntWalk.i64_in _ (by omega)]; omega
      have e4 : IntKind.u8.wrap ((n : Int) / 2 ^ m) = (b.toNat : Int) := by
        rw [IntKind.wrap_u8, hb, hm, UInt8.toNat_ofNat', Nat.mod_mod]
        exact (byte_div n k).symm
      have hsn := leB_snoc k n
      rw [← hb] at hsn
      have HS := Lib.hid hsn
      have hLk : (L ++ leB n k).length = L.length + k := by simp [leB_length]
      obtain ⟨LL, hLL⟩ : ∃ LL, LL = L ++ leB n k := ⟨_, rfl⟩
      rw [← hLL] at hown hLk
      have hlen1 : LL.length + 1 ≤ maxLen := by rw [hLk]; unfold maxLen; omega
      have hlen2 : (LL.length + 1) * 1 ≤ 140737488355328 := by rw [hLk]; omega
      have HL := Lib.hid hLL
      clear hLk hLL
      have hne := own_ne hown hpB
      clear hm hb hsn
      go_wp2
      go_region_law ((refine step_append_lies _ (by rfl) (.tmp 17) (.tmp 23) 47 (by rfl) B 5 i0 (.int .u8 0) 1 1 Tryd.underlying47 hi hz0 hz1 hz2 rfl (by decide) v _ _ (by rfl) ((hown.alloc _).drew) ⟨wr.heap.size, 0, none⟩ 1 1 [.int .u8 b.toNat] (by rfl) (by rfl) (World.news_of_block (cs := #[.int .u8 b.toNat]) (t := 5) (fr := (0, 0)) (heap_alloc_new wr _)) (by simp [Value.oneCell']) (by decide) hlen1 hlen2 (by simp; omega) (wr.heap.size + 1) (by simp) ?_; intro g cap w1 hown1 hgrow hat hlt1; have hc1 := grown_block hc hgrow hne; have hcell1 := cell_of_one hc1; have hfrz1 := free_of_one hc1))
      all_goals
        have hW1 := wr_push hc1 hown1 hpB (by have := hgrow.size; simp at this; omega)
        have hK1 := kp_push hkp hB hown hgrow (.slice (some ⟨g, 0, none⟩) (LL.length + 1) cap)
        have HW1 := Lib.hid hW1
        have HK1 := Lib.hid hK1
        clear hW1 hK1 hown hown1 hgrow hc1 hcell1 hfrz1 hc hcell hfrz
        go_wp2
        go_roundw
        case rel => exact ⟨k + 1, by omega, by go_num, by rw [HS.out, ← List.append_assoc, ← HL.out]; exact HW1.out, HK1.out⟩
        case measure => simp [intOf]; omega
    · obtain rfl : k = width := by omega
      go_wp2
      go_end0
      exact ⟨rfl, ⟨v, t, hc, hown, hpB, hB⟩, hkp⟩

end Go.Proofs.YtdgbililgkhjfaaDoor.Codec
