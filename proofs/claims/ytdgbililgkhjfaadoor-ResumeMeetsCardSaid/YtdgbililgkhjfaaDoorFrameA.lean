/- What the program's and the document's Put of the layer frame answer: walked. Condition: the world holds the table. -/
import Derived.Test.YtdgbililgkhjfaaDoorFrame0
import Derived.Test.YtdgbililgkhjfaaDoorCodecR
import Derived.Test.YtdgbililgkhjfaaDoorSumB
namespace Go.Proofs.YtdgbililgkhjfaaDoor.Frame
open Go.RowKit Go.Proofs.YtdgbililgkhjfaaDoor.Crc Go.Proofs.YtdgbililgkhjfaaDoor.Codec Go.Proofs.YtdgbililgkhjfaaDoor.CrcWalk
set_option linter.unusedVariables false
theorem bs_append (s : ByteArray) (l : List UInt8) : bs l ++ s = bs (l ++ s.data.toList) := by
  apply ByteArray.ext
  simp [bs]
set_option maxRecDepth 100000 in
/-- What 'Put' answers. -/
theorem put_any (s : ByteArray) (w : World) (hs : s.size ≤ maxLen) (hT : Tab w) :
    Calls Tryd.prog 58 #[.string s] w fun r w' => r = .returned (.tuple #[.string (bs (fput s.data.toList)), .int .i64 (fputE s.data.toList)]) ∧ Below w.heap.size w w' := by
  have hs1 := hs
  unfold maxLen at hs1
  have hlen : s.data.toList.length = s.size := by simp
  by_cases h : s.size ≤ 4096
  · have e1 : fput s.data.toList = fhead s.data.toList ++ s.data.toList := by unfold fput; rw [if_pos (by omega)]
    have e2 : fputE s.data.toList = 0 := by unfold fputE; rw [if_pos (by omega)]
    rw [e1, e2]
    clear e1 e2
    obtain ⟨l2, hl2⟩ : ∃ l, l = leB s.size 2 := ⟨_, rfl⟩
    obtain ⟨c, hc⟩ : ∃ c, c = crc 0 (l2 ++ s.data.toList) := ⟨_, rfl⟩
    have hcl : c < 4294967296 := by rw [hc]; exact crc_lt (by decide) _
    have hl2l : l2.length = 2 := by rw [hl2]; exact leB_length 2 _
    have hfin : fhead s.data.toList = l2 ++ leB c 4 := by unfold fhead; rw [hlen, ← hl2, ← hc]
    have hup : crc (crc 0 (bs l2).data.toList) s.data.toList = c := by rw [bs_toList, ← crc_append, hc]
    have hx : crc 0 (bs l2).data.toList < 4294967296 := crc_lt (by decide) _
    have HF := Lib.hid hfin
    have HU := Lib.hid hup
    have H2 := Lib.hid hl2
    clear hfin hup hl2 hc hlen
    go_enter Tryd.func58, Tryd.ntmps58
    go_wp2_with fail
    have hw0 : Wr (w.alloc (.cells #[.slice none 0 0] 109)) w.heap.size (w.heap.size + 1) [] := Wr.nil (heap_alloc_new w _) (Nat.lt_succ_self _) (by simp)
    have hbel0 : Below w.heap.size w (w.alloc (.cells #[.slice none 0 0] 109)) := (Below.refl _ _).alloc (Nat.le_refl _) _
    refine (write_u16 w.heap.size (w.heap.size + 1) s.size [] _ (by omega) (by simp) hw0).mono ?_
    rintro r w2 ⟨rfl, hw2, hk2⟩
    rw [List.nil_append, ← H2.out] at hw2
    have hbel2 := hbel0.trans (hk2.below (B' := w.heap.size) (by omega) (Nat.le_refl _))
    have hT2 : Tab w2 := tab_below hT hbel2
    clear hw0 hbel0 hk2
    go_wp2_with fail
    refine (bytes_any w.heap.size (w.heap.size + 1) l2 w2 hw2).mono ?_
    rintro r w' ⟨rfl, rfl⟩
    go_wp2_with fail
    refine (sum_any (bs l2) w2 (by rw [bs_size, hl2l]; decide) hT2).mono ?_
    rintro r w' ⟨rfl, rfl⟩
    go_wp2_with fail
    refine (update_any _ s w2 hx hs hT2).mono ?_
    rintro r w' ⟨rfl, rfl⟩
    rw [HU.out]
    go_wp2_with fail
    refine (write_u32 w.heap.size (w.heap.size + 1) c l2 w2 (by omega) (by omega) hw2).mono ?_
    rintro r w3 ⟨rfl, hw3, hk3⟩
    have hbel3 := hbel2.trans (hk3.below (B' := w.heap.size) (by omega) (Nat.le_refl _))
    clear hw2 hk3 hbel2
    go_wp2_with fail
    refine (bytes_any w.heap.size (w.heap.size + 1) (l2 ++ leB c 4) w3 hw3).mono ?_
    rintro r w' ⟨rfl, rfl⟩
    have hbsz : (bs (l2 ++ leB c 4)).size ≤ 6 := by rw [bs_size, List.length_append, leB_length]; omega
    have hap : bs (l2 ++ leB c 4) ++ s = bs (fhead s.data.toList ++ s.data.toList) := by rw [bs_append, HF.out]
    obtain ⟨t, ht⟩ : ∃ t, t = bs (l2 ++ leB c 4) := ⟨_, rfl⟩
    rw [← ht] at hap hbsz ⊢
    have HA := Lib.hid hap
    clear hap ht
    go_wp2
    go_ret2
    exact ⟨by rw [HA.out]; rfl, hbel3⟩
  · have e1 : fput s.data.toList = [] := by unfold fput; rw [if_neg (by omega)]
    have e2 : fputE s.data.toList = 3 := by unfold fputE; rw [if_neg (by omega)]
    rw [e1, e2]
    clear e1 e2 hlen
    go_enter Tryd.func58, Tryd.ntmps58
    go_wp2
    go_ret2
    exact ⟨rfl, Below.refl _ _⟩
set_option maxRecDepth 100000 in
/-- What the document's 'Number' answers. -/
theorem number_any (n width : Nat) (w : World) (hn : n < 18446744073709551616) (hwd : width ≤ 8) :
    Calls Tryd.prog 101 #[.int .u64 n, .int .i64 width] w fun r w' => r = .returned (.string (bs (leB n width))) ∧ Below w.heap.size w w' := by
  obtain ⟨i0, hi, hz0, hz1, hz2⟩ := info_parts info5
  go_enter Tryd.func101, Tryd.ntmps101
  go_wp2
  go_loopw [0, 5, 6] (fun x v i wr => ∃ k : Nat, k ≤ width ∧ i = .int .i64 k ∧ x = .int .u64 (n / 256 ^ k : Nat) ∧ wr.ownsRow w.heap.size 5 1 v (leB n k).length ((leB n k).map bc) ∧ Below w.heap.size w wr) (fun _ _ i _ => width - (intOf i).toNat)
  case atStart => exact ⟨0, Nat.zero_le _, rfl, by simp, World.ownsRow_nil w _ 5 1, Below.refl _ _⟩
  case round =>
    obtain ⟨k, hk, rfl, rfl, hown, hbel⟩ := hrel
    by_cases hlt : k < width
    · have hsn := leB_snoc k n
      obtain ⟨m, hm⟩ : ∃ m, m = n / 256 ^ k := ⟨_, rfl⟩
      have hm2 : m / 256 = n / 256 ^ (k + 1) := by rw [hm, Nat.div_div_eq_div_mul, Nat.pow_succ]
      have hml : m < 18446744073709551616 := by rw [hm]; exact Nat.lt_of_le_of_lt (Nat.div_le_self _ _) hn
      rw [← hm] at hsn ⊢
      have hb : (UInt8.ofNat (m % 256)).toNat = m % 256 := by rw [UInt8.toNat_ofNat']; omega
      have hLk : (leB n k).length = k := leB_length k n
      have hlen1 : (leB n k).length + 1 ≤ maxLen := by rw [hLk]; unfold maxLen; omega
      have hlen2 : ((leB n k).length + 1) * 1 ≤ 140737488355328 := by rw [hLk]; omega
      have HS := Lib.hid hsn
      have HM := Lib.hid hm2
      have HB := Lib.hid hb
      have hwsz := hbel.size
      clear hsn hm hm2 hb hLk
      go_wp2_with (at_builtin; refine wpList_append_own _ rfl (.tmp 12) (.tmp 16) 47 rfl w.heap.size 5 i0 (.int .u8 0) 1 1 Tryd.underlying47 hi hz0 hz1 hz2 rfl (by decide) _ _ _ rfl (hown.alloc _) ⟨wr.heap.size, 0, none⟩ 1 1 [.int .u8 (m % 256 : Nat)] rfl rfl (by simpa using World.news_of_block (w := wr.alloc (.cells #[.int .u8 (m % 256 : Nat)] 5)) (cs := #[.int .u8 (m % 256 : Nat)]) (t := 5) (fr := (0, 0)) (heap_alloc_new wr _)) (by simp [Value.oneCell']) hlen1 hlen2 (by simp; omega) ?_; intro v' w1 hown1 hgrow1 _)
      have hbel1 := (hbel.alloc hwsz (.cells #[.int .u8 (m % 256 : Nat)] 5)).grown hgrow1 (by simp; omega) (fun j e => (hown.lt j e).1)
      go_roundw
      case rel => exact ⟨k + 1, by omega, by go_num, by rw [← HM.out]; simp, by rw [HS.out]; simpa [bc, HB.out] using hown1, hbel1⟩
      case measure => simp [intOf]; omega
    · obtain rfl : k = width := by omega
      have hcv := own_conv hown
      have hb := Lib.hid hbel
      clear hown hbel
      go_wp2
      go_ret
      exact ⟨rfl, hb.out⟩
theorem to_bs_append (l : List UInt8) (s : ByteArray) : (bs l ++ s).data.toList = l ++ s.data.toList := by rw [bs_append, bs_toList]
set_option maxRecDepth 100000 in
/-- What the document's 'Put' answers. -/
theorem rput_any (s : ByteArray) (w : World) (hs : s.size ≤ maxLen) :
    Calls Tryd.prog 61 #[.string s] w fun r w' => r = .returned (.tuple #[.string (bs (fput s.data.toList)), .int .i64 (fputE s.data.toList)]) ∧ Below w.heap.size w w' := by
  have hs1 := hs
  unfold maxLen at hs1
  have hlen : s.data.toList.length = s.size := by simp
  by_cases h : s.size ≤ 4096
  · have e1 : fput s.data.toList = fhead s.data.toList ++ s.data.toList := by unfold fput; rw [if_pos (by omega)]
    have e2 : fputE s.data.toList = 0 := by unfold fputE; rw [if_pos (by omega)]
    rw [e1, e2]
    clear e1 e2
    obtain ⟨l2, hl2⟩ : ∃ l, l = leB s.size 2 := ⟨_, rfl⟩
    obtain ⟨c, hc⟩ : ∃ c, c = crc 0 (l2 ++ s.data.toList) := ⟨_, rfl⟩
    have hcl : c < 4294967296 := by rw [hc]; exact crc_lt (by decide) _
    have hl2l : (bs l2).size ≤ 2 := by rw [bs_size, hl2, leB_length]; omega
    have h4l : (bs (leB c 4)).size ≤ 4 := by rw [bs_size, leB_length]; omega
    have hsum := fun W => rsum_any (bs l2 ++ s) W (by unfold maxLen; simp; omega)
    rw [to_bs_append, ← hc] at hsum
    have hfin : bs l2 ++ bs (leB c 4) ++ s = bs (fhead s.data.toList ++ s.data.toList) := by
      unfold fhead
      rw [hlen, ← hl2, ← hc, bs_append (bs (leB c 4)), bs_append s, bs_toList]
    have hn1 := fun W => number_any s.size 2 W (by omega) (by decide)
    rw [← hl2] at hn1
    have hn2 := fun W => number_any c 4 W (by omega) (by decide)
    have HF := Lib.hid hfin
    have HS := Lib.hid hsum
    have H1 := Lib.hid hn1
    have H2 := Lib.hid hn2
    clear hfin hl2 hc hlen hsum hn1 hn2
    generalize bs l2 = b2 at *
    generalize bs (leB c 4) = b4 at *
    go_enter Tryd.func61, Tryd.ntmps61
    go_wp2_with fail
    refine (H1.out w).mono ?_
    rintro r w1 ⟨rfl, hw1⟩
    go_wp2_with fail
    refine (HS.out w1).mono ?_
    rintro r w' ⟨rfl, rfl⟩
    go_wp2_with fail
    refine (H2.out w1).mono ?_
    rintro r w2 ⟨rfl, hw2⟩
    have hbel := hw1.trans (hw2.mono hw1.size)
    go_wp2
    go_ret2
    exact ⟨by rw [HF.out]; rfl, hbel⟩
  · have e1 : fput s.data.toList = [] := by unfold fput; rw [if_neg (by omega)]
    have e2 : fputE s.data.toList = 3 := by unfold fputE; rw [if_neg (by omega)]
    rw [e1, e2]
    clear e1 e2 hlen
    go_enter Tryd.func61, Tryd.ntmps61
    go_wp2
    go_ret2
    exact ⟨rfl, Below.refl _ _⟩
end Go.Proofs.YtdgbililgkhjfaaDoor.Frame
