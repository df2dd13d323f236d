/- P21.1: the law PacketKnown: walked. Condition: the table. -/
import Derived.Test.YtdgbililgkhjfaaDoorPkX
import Derived.Test.YtdgbililgkhjfaaDoorPkY0
import Derived.Deep.OwnRows
namespace Go.Proofs.YtdgbililgkhjfaaDoor.Pk
open Go.RowKit Go.Proofs.YtdgbililgkhjfaaDoor.Crc Go.Proofs.YtdgbililgkhjfaaDoor.Codec Go.Proofs.YtdgbililgkhjfaaDoor.CrcWalk Go.Proofs.YtdgbililgkhjfaaDoor.Frame
set_option linter.unusedVariables false
theorem fnE_torn (x : List UInt8) (c : Nat) (h : x.length ≤ 4096) (hc : c < 6 + x.length) : fnE ((fput x).take c) = 10 := by
  have hl : ((fput x).take c).length = c := by rw [List.length_take, fput_length h]; omega
  unfold fnE
  by_cases h6 : c < 6
  · rw [if_pos (by omega)]
  · have t2 : ((fput x).take c).take 2 = leB x.length 2 := by
      rw [List.take_take, Nat.min_eq_left (by omega)]
      have e1 : fput x = leB x.length 2 ++ (leB (crc 0 (leB x.length 2 ++ x)) 4 ++ x) := by simp [fput, h, fhead]
      rw [e1]; exact List.take_left' (leB_length 2 _)
    have v2 : V (leB x.length 2) = x.length := by rw [leB_V]; exact Nat.mod_eq_of_lt (by omega)
    rw [if_neg (by omega), t2, v2, if_neg (by omega), if_pos (by omega)]
abbrev zeroQ (W : World) : World := W.alloc (.cells (pc K.zero (.slice none 0 0) (.slice none 0 0)) 26)
abbrev kA : K := ⟨3, 0, 1, 1, 0, 0, 5, [1, 2, 3], [], 0, 0⟩
abbrev kB : K := ⟨3, 0, 1, 1, 0, 0, 18446744073709551615, [], [], 0, 0⟩
theorem kA_put : pPut kA = (fput kA.pay, 0) := if_pos ⟨by decide +kernel, rfl⟩
theorem kB_put : pPut kB = (fput kB.pay, 0) := if_pos ⟨by decide +kernel, rfl⟩
theorem made_bc (n : Nat) : madeCells #[.int .u8 0] n = ((List.replicate n (0 : UInt8)).map bc).toArray := by
  apply Array.ext
  · simp [size_madeCells]
  · intro i h1 h2
    simp [madeCells, bc, Nat.mod_one]
theorem ins_at {W : World} {g n : Nat} {cs : Array Value} {t : TypeId} {l : List UInt8} (h : W.heap[g]? = some (.cells cs t (0, 0))) (hn : n = l.length) (hl : n ≤ 1000) (hc : cs = (l.map bc).toArray) : Ins W (.slice (some ⟨g, 0, none⟩) n n) l := by
  subst hn hc
  refine ⟨_, _, rfl, by omega, fun i hi => ⟨g, 0, rfl, lt_of_block h, ?_⟩⟩
  rw [cell_of_row W g (0 + i) _ _ _ h]
  simp [hi, bc]
theorem prs_at {W : World} {g : Nat} {a b : UInt8} {t : TypeId} (h : W.heap[g]? = some (.cells #[bc a, bc b] t (0, 0))) : Prs W (.slice (some ⟨g, 0, none⟩) 1 1) [(a, b)] := by
  refine ⟨_, _, rfl, by simp, fun i hi => ⟨g, 0, rfl, lt_of_block h, ?_⟩⟩
  obtain rfl : i = 0 := by simpa using hi
  refine ⟨?_, ?_⟩
  · rw [cell_of_row W g (0 + 0 * 2) _ _ _ h]; rfl
  · rw [cell_of_row W g (0 + 0 * 2 + 1) _ _ _ h]; rfl
abbrev kn0 : K := ⟨2, 0, 1, 0, 0, 0, 0, [], [], 0, 0⟩
theorem kn0_wf : kn0.wf := by constructor <;> decide
theorem kn0_put : pPut kn0 = ([], 4) := if_neg (by decide +kernel)
abbrev kn1 : K := ⟨1, 0, 1, 0, 3, 2, 0, [], [], 0, 0⟩
theorem kn1_wf : kn1.wf := by constructor <;> decide
theorem kn1_put : pPut kn1 = ([], 4) := if_neg (by decide +kernel)
abbrev kn2 : K := ⟨4, 0, 1, 1, 0, 0, 0, [], [], 0, 0⟩
theorem kn2_wf : kn2.wf := by constructor <;> decide
theorem kn2_put : pPut kn2 = ([], 4) := if_neg (by decide +kernel)
abbrev kn3 : K := ⟨3, 0, 1, 1, 0, 0, 0, (List.replicate 33 0), [], 0, 0⟩
theorem kn3_wf : kn3.wf := by constructor <;> decide
theorem kn3_put : pPut kn3 = ([], 4) := if_neg (by decide +kernel)
abbrev kn4 : K := ⟨5, 0, 1, 1, 0, 1, 0, [], [], 0, 0⟩
theorem kn4_wf : kn4.wf := by constructor <;> decide
theorem kn4_put : pPut kn4 = ([], 4) := if_neg (by decide +kernel)
abbrev kn5 : K := ⟨3, 0, 1, 1, 0, 0, 18446744073709551615, [0], [], 0, 0⟩
theorem kn5_wf : kn5.wf := by constructor <;> decide
theorem kn5_put : pPut kn5 = ([], 4) := if_neg (by decide +kernel)
abbrev kn6 : K := ⟨3, 0, 1, 1, 0, 0, 0, [64], [], 0, 0⟩
theorem kn6_wf : kn6.wf := by constructor <;> decide
theorem kn6_put : pPut kn6 = ([], 4) := if_neg (by decide +kernel)
abbrev kn7 : K := ⟨4, 0, 1, 1, 0, 0, 0, [], [(0, 64)], 0, 0⟩
theorem kn7_wf : kn7.wf := by constructor <;> decide
theorem kn7_put : pPut kn7 = ([], 4) := if_neg (by decide +kernel)
abbrev kn8 : K := ⟨1, 0, 0, 0, 0, 0, 0, [], [], 0, 0⟩
theorem kn8_wf : kn8.wf := by constructor <;> decide
theorem kn8_put : pPut kn8 = ([], 4) := if_neg (by decide +kernel)
abbrev kn9 : K := ⟨257, 0, 1, 1, 0, 0, 0, [], [], 0, 0⟩
theorem kn9_wf : kn9.wf := by constructor <;> decide
theorem kn9_put : pPut kn9 = ([], 4) := if_neg (by decide +kernel)
abbrev kn10 : K := ⟨1, 2, 1, 0, 0, 0, 0, [], [], 0, 0⟩
theorem kn10_wf : kn10.wf := by constructor <;> decide
theorem kn10_put : pPut kn10 = ([], 4) := if_neg (by decide +kernel)
theorem kA_wf : kA.wf := by constructor <;> decide
theorem kB_wf : kB.wf := by constructor <;> decide
theorem kA_pay : kA.pay.length = 38 := by decide
theorem kB_pay : kB.pay.length = 35 := by decide
theorem t_nil : pT [] = (K.zero, 10) := rfl
theorem t_more : pT (fput kA.pay ++ [0]) = (K.zero, 4) := by
  obtain ⟨e1, e2, e3⟩ := fn_fput kA.pay [0] (by rw [kA_pay]; decide)
  unfold pT
  rw [if_neg (by rw [e3]; decide), e2, kA_pay, if_neg (by rw [List.length_append, fput_length (by rw [kA_pay]; decide), kA_pay]; decide)]
theorem t_cut : pT ((fput kA.pay).take 43) = (K.zero, 10) := by
  have e := fnE_torn kA.pay 43 (by rw [kA_pay]; decide) (by rw [kA_pay]; decide)
  unfold pT
  rw [if_pos (by rw [e]; decide), e]
set_option maxRecDepth 100000 in
set_option maxHeartbeats 8000000 in
/-- P21.1: the law PacketKnown. -/
theorem known_law (w : World) (hT : Tab w) : Calls Tryd.prog 5 #[] w fun r w' => r = .returned (.bool true) ∧ Below w.heap.size w w' := by
  have hA := fun W (h : Below w.heap.size w W) => awake_any W (tab_below hT h)
  have pA := fun W (h : Below w.heap.size w W) => show Calls Tryd.prog 18 #[.agg #[.int .i64 3, .int .u8 0, .int .u64 1, .int .u64 1, .int .u64 0, .int .u64 0, .int .u64 5, (.slice (some ⟨W.heap.size, 0, none⟩) 3 3), .slice none 0 0, .int .u64 0, .int .u64 0]] (W.alloc (.cells #[.int .u8 1, .int .u8 2, .int .u8 3] 42)) fun e w' => e = .returned (.tuple #[.string (bs (pPut kA).1), .int .i64 (pPut kA).2]) ∧ Below (W.alloc (.cells #[.int .u8 1, .int .u8 2, .int .u8 3] 42)).heap.size _ w' from
    put_any kA (.slice (some ⟨W.heap.size, 0, none⟩) 3 3) (.slice none 0 0) _ kA_wf (ins_at (heap_alloc_new W _) rfl (by decide) rfl) (prs_nil _) (tab_below hT (h.alloc h.size _))
  have pB := fun W (h : Below w.heap.size w W) => show Calls Tryd.prog 18 #[.agg #[.int .i64 3, .int .u8 0, .int .u64 1, .int .u64 1, .int .u64 0, .int .u64 0, .int .u64 18446744073709551615, .slice none 0 0, .slice none 0 0, .int .u64 0, .int .u64 0]] W fun e w' => e = .returned (.tuple #[.string (bs (pPut kB).1), .int .i64 (pPut kB).2]) ∧ Below W.heap.size W w' from
    put_any kB (.slice none 0 0) (.slice none 0 0) _ kB_wf (ins_nil _) (prs_nil _) (tab_below hT h)
  rw [kA_put] at pA
  rw [kB_put] at pB
  dsimp only at pA pB
  have tN := fun W (h : Below w.heap.size w W) => take_any ⟨#[]⟩ W (by decide) (tab_below hT h)
  have tM := fun W (h : Below w.heap.size w W) => take_any (bs (fput kA.pay ++ [0])) W (by rw [bs_size, List.length_append, fput_length (by rw [kA_pay]; decide), kA_pay]; decide) (tab_below hT h)
  have tC := fun W (h : Below w.heap.size w W) => take_any (bs ((fput kA.pay).take 43)) W (by rw [bs_size, List.length_take]; exact Nat.le_trans (Nat.min_le_left _ _) (by decide)) (tab_below hT h)
  rw [show pT (⟨#[]⟩ : ByteArray).data.toList = (K.zero, 10) from t_nil] at tN
  rw [bs_toList, t_more] at tM
  rw [bs_toList, t_cut] at tC
  have zA : (bs (fput kA.pay)).size = 44 := by rw [bs_size, fput_length (by rw [kA_pay]; decide), kA_pay]
  have zB : (bs (fput kB.pay)).size = 41 := by rw [bs_size, fput_length (by rw [kB_pay]; decide), kB_pay]
  have eM : bs (fput kA.pay) ++ ⟨#[0]⟩ = bs (fput kA.pay ++ [0]) := by
    apply ByteArray.ext
    simp [bs]
  have eC : (bs (fput kA.pay)).extract 0 43 = bs ((fput kA.pay).take 43) := by
    apply ByteArray.ext
    apply Array.toList_inj.1
    simp [bs, ByteArray.data_extract, List.extract_eq_take_drop]
  have n0 := fun W (h : Below w.heap.size w W) => show Calls Tryd.prog 24 #[.agg #[.int .i64 2, .int .u8 0, .int .u64 1, .int .u64 0, .int .u64 0, .int .u64 0, .int .u64 0, .slice none 0 0, .slice none 0 0, .int .u64 0, .int .u64 0]] W fun r w' => r = .returned (.bool true) ∧ Below W.heap.size W w' from none_yes kn0 (.slice none 0 0) (.slice none 0 0) _ kn0_wf (ins_nil _) (prs_nil _) (tab_below hT h) kn0_put
  have n1 := fun W (h : Below w.heap.size w W) => show Calls Tryd.prog 24 #[.agg #[.int .i64 1, .int .u8 0, .int .u64 1, .int .u64 0, .int .u64 3, .int .u64 2, .int .u64 0, .slice none 0 0, .slice none 0 0, .int .u64 0, .int .u64 0]] W fun r w' => r = .returned (.bool true) ∧ Below W.heap.size W w' from none_yes kn1 (.slice none 0 0) (.slice none 0 0) _ kn1_wf (ins_nil _) (prs_nil _) (tab_below hT h) kn1_put
  have n2 := fun W (h : Below w.heap.size w W) => show Calls Tryd.prog 24 #[.agg #[.int .i64 4, .int .u8 0, .int .u64 1, .int .u64 1, .int .u64 0, .int .u64 0, .int .u64 0, .slice none 0 0, .slice none 0 0, .int .u64 0, .int .u64 0]] W fun r w' => r = .returned (.bool true) ∧ Below W.heap.size W w' from none_yes kn2 (.slice none 0 0) (.slice none 0 0) _ kn2_wf (ins_nil _) (prs_nil _) (tab_below hT h) kn2_put
  have n3 := fun W (h : Below w.heap.size w W) => show Calls Tryd.prog 24 #[.agg #[.int .i64 3, .int .u8 0, .int .u64 1, .int .u64 1, .int .u64 0, .int .u64 0, .int .u64 0, (.slice (some ⟨W.heap.size, 0, none⟩) 33 33), .slice none 0 0, .int .u64 0, .int .u64 0]] (W.alloc (.cells (madeCells #[.int .u8 0] 33) 42)) fun r w' => r = .returned (.bool true) ∧ Below (W.alloc (.cells (madeCells #[.int .u8 0] 33) 42)).heap.size (W.alloc (.cells (madeCells #[.int .u8 0] 33) 42)) w' from none_yes kn3 (.slice (some ⟨W.heap.size, 0, none⟩) 33 33) (.slice none 0 0) _ kn3_wf (ins_at (heap_alloc_new W _) rfl (by decide) (made_bc 33)) (prs_nil _) (tab_below hT (h.alloc h.size _)) kn3_put
  have n4 := fun W (h : Below w.heap.size w W) => show Calls Tryd.prog 24 #[.agg #[.int .i64 5, .int .u8 0, .int .u64 1, .int .u64 1, .int .u64 0, .int .u64 1, .int .u64 0, .slice none 0 0, .slice none 0 0, .int .u64 0, .int .u64 0]] W fun r w' => r = .returned (.bool true) ∧ Below W.heap.size W w' from none_yes kn4 (.slice none 0 0) (.slice none 0 0) _ kn4_wf (ins_nil _) (prs_nil _) (tab_below hT h) kn4_put
  have n5 := fun W (h : Below w.heap.size w W) => show Calls Tryd.prog 24 #[.agg #[.int .i64 3, .int .u8 0, .int .u64 1, .int .u64 1, .int .u64 0, .int .u64 0, .int .u64 18446744073709551615, (.slice (some ⟨W.heap.size, 0, none⟩) 1 1), .slice none 0 0, .int .u64 0, .int .u64 0]] (W.alloc (.cells #[.int .u8 0] 42)) fun r w' => r = .returned (.bool true) ∧ Below (W.alloc (.cells #[.int .u8 0] 42)).heap.size (W.alloc (.cells #[.int .u8 0] 42)) w' from none_yes kn5 (.slice (some ⟨W.heap.size, 0, none⟩) 1 1) (.slice none 0 0) _ kn5_wf (ins_at (heap_alloc_new W _) rfl (by decide) rfl) (prs_nil _) (tab_below hT (h.alloc h.size _)) kn5_put
  have n6 := fun W (h : Below w.heap.size w W) => show Calls Tryd.prog 24 #[.agg #[.int .i64 3, .int .u8 0, .int .u64 1, .int .u64 1, .int .u64 0, .int .u64 0, .int .u64 0, (.slice (some ⟨W.heap.size, 0, none⟩) 1 1), .slice none 0 0, .int .u64 0, .int .u64 0]] (W.alloc (.cells #[.int .u8 64] 42)) fun r w' => r = .returned (.bool true) ∧ Below (W.alloc (.cells #[.int .u8 64] 42)).heap.size (W.alloc (.cells #[.int .u8 64] 42)) w' from none_yes kn6 (.slice (some ⟨W.heap.size, 0, none⟩) 1 1) (.slice none 0 0) _ kn6_wf (ins_at (heap_alloc_new W _) rfl (by decide) rfl) (prs_nil _) (tab_below hT (h.alloc h.size _)) kn6_put
  have n7 := fun W (h : Below w.heap.size w W) => show Calls Tryd.prog 24 #[.agg #[.int .i64 4, .int .u8 0, .int .u64 1, .int .u64 1, .int .u64 0, .int .u64 0, .int .u64 0, .slice none 0 0, (.slice (some ⟨W.heap.size, 0, none⟩) 1 1), .int .u64 0, .int .u64 0]] (W.alloc (.cells #[.int .u8 0, .int .u8 64] 44)) fun r w' => r = .returned (.bool true) ∧ Below (W.alloc (.cells #[.int .u8 0, .int .u8 64] 44)).heap.size (W.alloc (.cells #[.int .u8 0, .int .u8 64] 44)) w' from none_yes kn7 (.slice none 0 0) (.slice (some ⟨W.heap.size, 0, none⟩) 1 1) _ kn7_wf (ins_nil _) (prs_at (heap_alloc_new W _)) (tab_below hT (h.alloc h.size _)) kn7_put
  have n8 := fun W (h : Below w.heap.size w W) => show Calls Tryd.prog 24 #[.agg #[.int .i64 1, .int .u8 0, .int .u64 0, .int .u64 0, .int .u64 0, .int .u64 0, .int .u64 0, .slice none 0 0, .slice none 0 0, .int .u64 0, .int .u64 0]] W fun r w' => r = .returned (.bool true) ∧ Below W.heap.size W w' from none_yes kn8 (.slice none 0 0) (.slice none 0 0) _ kn8_wf (ins_nil _) (prs_nil _) (tab_below hT h) kn8_put
  have n9 := fun W (h : Below w.heap.size w W) => show Calls Tryd.prog 24 #[.agg #[.int .i64 257, .int .u8 0, .int .u64 1, .int .u64 1, .int .u64 0, .int .u64 0, .int .u64 0, .slice none 0 0, .slice none 0 0, .int .u64 0, .int .u64 0]] W fun r w' => r = .returned (.bool true) ∧ Below W.heap.size W w' from none_yes kn9 (.slice none 0 0) (.slice none 0 0) _ kn9_wf (ins_nil _) (prs_nil _) (tab_below hT h) kn9_put
  have n10 := fun W (h : Below w.heap.size w W) => show Calls Tryd.prog 24 #[.agg #[.int .i64 1, .int .u8 2, .int .u64 1, .int .u64 0, .int .u64 0, .int .u64 0, .int .u64 0, .slice none 0 0, .slice none 0 0, .int .u64 0, .int .u64 0]] W fun r w' => r = .returned (.bool true) ∧ Below W.heap.size W w' from none_yes kn10 (.slice none 0 0) (.slice none 0 0) _ kn10_wf (ins_nil _) (prs_nil _) (tab_below hT h) kn10_put
  generalize bs (fput kA.pay ++ [0]) = TM at *
  generalize bs ((fput kA.pay).take 43) = TC at *
  generalize bs (fput kA.pay) = TA at *
  generalize bs (fput kB.pay) = TB at *
  have eA : ((TA.size : Int) != 44) = false := by rw [zA]; rfl
  have eB : ((TB.size : Int) != 41) = false := by rw [zB]; rfl
  have hzA : TA.size = 44 := zA
  have HhA := Lib.hid hA
  have HpA := Lib.hid pA
  have HpB := Lib.hid pB
  have HtN := Lib.hid tN
  have HtM := Lib.hid tM
  have HtC := Lib.hid tC
  have Hn0 := Lib.hid n0
  have Hn1 := Lib.hid n1
  have Hn2 := Lib.hid n2
  have Hn3 := Lib.hid n3
  have Hn4 := Lib.hid n4
  have Hn5 := Lib.hid n5
  have Hn6 := Lib.hid n6
  have Hn7 := Lib.hid n7
  have Hn8 := Lib.hid n8
  have Hn9 := Lib.hid n9
  have Hn10 := Lib.hid n10
  clear hA pA pB tN tM tC n0 n1 n2 n3 n4 n5 n6 n7 n8 n9 n10 hT zA zB
  obtain ⟨i0, hi, hz0, hz1, hz2⟩ := info_parts infoI
  have hmk := fun W => run_make_row (P := Tryd.prog) 23 42 i0 (.int .u8 0) Tryd.underlying23 hi hz0 hz1 rfl .i64 .i64 33 (by rw [hz2]; decide) (by decide) W
  rw [show ((33 : Nat) : Int) = 33 from rfl] at hmk
  go_enter Tryd.func5, Tryd.ntmps5
  have hB0 : Below w.heap.size w w := Below.refl _ w
  go_wp2_with fail
  refine (HpA.out _ hB0).mono ?_
  rintro e w1 ⟨rfl, hb⟩
  have hB1 : Below w.heap.size w w1 := (hB0.alloc hB0.size _).trans (hb.mono (by rw [World.size_alloc]; exact Nat.le_succ_of_le hB0.size))
  clear hb hB0
  go_wp2_with fail
  refine (HpB.out _ hB1).mono ?_
  rintro e w2 ⟨rfl, hb⟩
  have hB2 : Below w.heap.size w w2 := hB1.trans (hb.mono hB1.size)
  clear hb hB1
  go_wp2_with fail
  refine (Hn0.out _ hB2).mono ?_
  rintro e w3 ⟨rfl, hb⟩
  have hB3 : Below w.heap.size w w3 := hB2.trans (hb.mono hB2.size)
  clear hb hB2
  go_wp2_with fail
  refine (Hn1.out _ hB3).mono ?_
  rintro e w4 ⟨rfl, hb⟩
  have hB4 : Below w.heap.size w w4 := hB3.trans (hb.mono hB3.size)
  clear hb hB3
  go_wp2_with fail
  refine (Hn2.out _ hB4).mono ?_
  rintro e w5 ⟨rfl, hb⟩
  have hB5 : Below w.heap.size w w5 := hB4.trans (hb.mono hB4.size)
  clear hb hB4
  go_wp2_with fail
  refine (Hn3.out _ hB5).mono ?_
  rintro e w6 ⟨rfl, hb⟩
  have hB6 : Below w.heap.size w w6 := (hB5.alloc hB5.size _).trans (hb.mono (by rw [World.size_alloc]; exact Nat.le_succ_of_le hB5.size))
  clear hb hB5
  go_wp2_with fail
  refine (Hn4.out _ hB6).mono ?_
  rintro e w7 ⟨rfl, hb⟩
  have hB7 : Below w.heap.size w w7 := hB6.trans (hb.mono hB6.size)
  clear hb hB6
  go_wp2_with fail
  refine (Hn5.out _ hB7).mono ?_
  rintro e w8 ⟨rfl, hb⟩
  have hB8 : Below w.heap.size w w8 := (hB7.alloc hB7.size _).trans (hb.mono (by rw [World.size_alloc]; exact Nat.le_succ_of_le hB7.size))
  clear hb hB7
  go_wp2_with fail
  refine (Hn6.out _ hB8).mono ?_
  rintro e w9 ⟨rfl, hb⟩
  have hB9 : Below w.heap.size w w9 := (hB8.alloc hB8.size _).trans (hb.mono (by rw [World.size_alloc]; exact Nat.le_succ_of_le hB8.size))
  clear hb hB8
  go_wp2_with fail
  refine (Hn7.out _ hB9).mono ?_
  rintro e w10 ⟨rfl, hb⟩
  have hB10 : Below w.heap.size w w10 := (hB9.alloc hB9.size _).trans (hb.mono (by rw [World.size_alloc]; exact Nat.le_succ_of_le hB9.size))
  clear hb hB9
  go_wp2_with fail
  refine (Hn8.out _ hB10).mono ?_
  rintro e w11 ⟨rfl, hb⟩
  have hB11 : Below w.heap.size w w11 := hB10.trans (hb.mono hB10.size)
  clear hb hB10
  go_wp2_with fail
  refine (Hn9.out _ hB11).mono ?_
  rintro e w12 ⟨rfl, hb⟩
  have hB12 : Below w.heap.size w w12 := hB11.trans (hb.mono hB11.size)
  clear hb hB11
  go_wp2_with fail
  refine (Hn10.out _ hB12).mono ?_
  rintro e w13 ⟨rfl, hb⟩
  have hB13 : Below w.heap.size w w13 := hB12.trans (hb.mono hB12.size)
  clear hb hB12
  go_wp2_with fail
  refine (HtN.out _ hB13).mono ?_
  rintro e w14 ⟨⟨vi14, vp14, rfl, hi14, hp14⟩, hb⟩
  have hB14 : Below w.heap.size w w14 := hB13.trans (hb.mono hB13.size)
  clear hb hB13
  have hs14 := sl_of hi14 hp14
  have hn14 : Blk (zeroQ w14) w14.heap.size (pc K.zero (.slice none 0 0) (.slice none 0 0)) 26 := heap_alloc_new w14 _
  have hC14 : Below w.heap.size w ((zeroQ w14).setRow w14.heap.size (pc K.zero vi14 vp14)) := below_setRow (hB14.alloc hB14.size _) hB14.size _
  clear hi14 hp14
  go_wp2_with (first | (refine store_pk (.tmp 5) (.tmp 98) w14.heap.size K.zero K.zero _ _ vi14 vp14 hs14 hn14 rfl rfl rfl rfl rfl ?_))
  refine (HtM.out _ hC14).mono ?_
  rintro e w15 ⟨⟨vi15, vp15, rfl, hi15, hp15⟩, hb⟩
  have hB15 : Below w.heap.size w w15 := hC14.trans (hb.mono hC14.size)
  clear hb
  have hs15 := sl_of hi15 hp15
  have hn15 : Blk (zeroQ w15) w15.heap.size (pc K.zero (.slice none 0 0) (.slice none 0 0)) 26 := heap_alloc_new w15 _
  have hC15 : Below w.heap.size w ((zeroQ w15).setRow w15.heap.size (pc K.zero vi15 vp15)) := below_setRow (hB15.alloc hB15.size _) hB15.size _
  clear hi15 hp15
  go_wp2_with (first | (refine store_pk (.tmp 7) (.tmp 104) w15.heap.size K.zero K.zero _ _ vi15 vp15 hs15 hn15 rfl rfl rfl rfl rfl ?_))
  refine (HtC.out _ hC15).mono ?_
  rintro e w16 ⟨⟨vi16, vp16, rfl, hi16, hp16⟩, hb⟩
  have hB16 : Below w.heap.size w w16 := hC15.trans (hb.mono hC15.size)
  clear hb
  have hs16 := sl_of hi16 hp16
  have hn16 : Blk (zeroQ w16) w16.heap.size (pc K.zero (.slice none 0 0) (.slice none 0 0)) 26 := heap_alloc_new w16 _
  have hC16 : Below w.heap.size w ((zeroQ w16).setRow w16.heap.size (pc K.zero vi16 vp16)) := below_setRow (hB16.alloc hB16.size _) hB16.size _
  clear hi16 hp16
  go_wp2_with (first | (refine store_pk (.tmp 9) (.tmp 110) w16.heap.size K.zero K.zero _ _ vi16 vp16 hs16 hn16 rfl rfl rfl rfl rfl ?_))
  refine (HhA.out _ hC16).mono ?_
  rintro e w17 ⟨rfl, hb⟩
  have hB17 : Below w.heap.size w w17 := hC16.trans (hb.mono hC16.size)
  clear hb
  go_wp2
  go_ret
  exact ⟨rfl, hB17⟩
end Go.Proofs.YtdgbililgkhjfaaDoor.Pk
