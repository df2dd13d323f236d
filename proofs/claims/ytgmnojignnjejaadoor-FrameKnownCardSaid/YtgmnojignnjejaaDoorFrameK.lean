/- The law FrameKnown: walked. Condition: the world holds the table. -/
import Derived.Test.YtgmnojignnjejaaDoorFrameL
namespace Go.Proofs.YtgmnojignnjejaaDoor.Frame
open Go.RowKit Go.Proofs.YtgmnojignnjejaaDoor.Crc Go.Proofs.YtgmnojignnjejaaDoor.Codec Go.Proofs.YtgmnojignnjejaaDoor.CrcWalk
set_option linter.unusedVariables false
theorem row_two {w : World} {base : Nat} {e : TypeId} {v : Value} {x y : Value} (h : w.ownsRow base e 1 v 2 [x, y]) : ∃ g c, v = .slice (some ⟨g, 0, none⟩) 2 c ∧ w.cell? ⟨g, 0, none⟩ = some x ∧ w.cell? ⟨g, 1, none⟩ = some y := by
  obtain ⟨g, c, rfl, k⟩ := row_cells h (by simp)
  exact ⟨g, c, rfl, k 0 x rfl, k 1 y rfl⟩
set_option maxRecDepth 100000 in
set_option maxHeartbeats 1000000 in
/-- P4.1 to P4.3: the law FrameKnown. -/
theorem known_law (w : World) (hT : Tab w) :
    Calls Tryd.prog 8 #[] w fun r w' => r = .returned (.bool true) ∧ Below w.heap.size w w' := by
  have hA := lput_any ⟨#[97]⟩ w (by decide) hT
  have hE := fun W (h : Tab W) => lput_any ⟨#[]⟩ W (by decide) h
  obtain ⟨A, hA2⟩ : ∃ A, A = bs (fput (⟨#[97]⟩ : ByteArray).data.toList) := ⟨_, rfl⟩
  obtain ⟨E, hE2⟩ : ∃ E, E = bs (fput (⟨#[]⟩ : ByteArray).data.toList) := ⟨_, rfl⟩
  rw [← hA2] at hA
  rw [← hE2] at hE
  have hAs : A.size = 7 := by rw [hA2, bs_size]; exact fput_length (by decide)
  have hEs : E.size = 6 := by rw [hE2, bs_size]; exact fput_length (by decide)
  obtain ⟨T, hT2⟩ : ∃ T, T = A ++ E ++ (⟨#[120]⟩ : ByteArray) := ⟨_, rfl⟩
  have hTs : T.size = 14 := by rw [hT2, ByteArray.size_append, ByteArray.size_append, hAs, hEs]; rfl
  have hTl : T.data.toList = fput [97] ++ fput [] ++ [120] := by rw [hT2, hA2, hE2]; simp [bs]
  have p1 : faP 14 (fput [97] ++ fput [] ++ [120]) = [[97], []] := by decide +kernel
  have p2 : faU 14 (fput [97] ++ fput [] ++ [120]) = 13 := by decide +kernel
  have p3 : faE 14 (fput [97] ++ fput [] ++ [120]) = 10 := by decide +kernel
  have hL := fun W (h : Tab W) => all_any T W (by omega) h
  rw [hTs, hTl, p1, p2, p3] at hL
  have hN := fun W (h : Tab W) => all_any ⟨#[]⟩ W (by decide) h
  obtain ⟨C, hC⟩ : ∃ C, C = A.extract 0 6 := ⟨_, rfl⟩
  have hCl : C.data.toList = (fput [97]).take 6 := by rw [hC, ex_take, hA2]; simp [bs]
  have hC10 : fnE C.data.toList = 10 := by rw [hCl]; decide +kernel
  have hCs : C.size ≤ maxLen := by rw [size_list, hCl, List.length_take]; unfold maxLen; omega
  have f1 := fun W (h : Tab W) => fails_yes ⟨#[49, 50, 51, 52, 53]⟩ 10 W (by decide) h (by decide +kernel) (by decide)
  have f2 := fun W (h : Tab W) => fails_yes C 10 W hCs h hC10 (by decide)
  have f3 := fun W (h : Tab W) => fails_yes ⟨#[1, 16, 0, 0, 0, 0]⟩ 3 W (by decide) h (by decide +kernel) (by decide)
  have f4 := fun W (h : Tab W) => fails_yes ⟨#[0, 16, 0, 0, 0, 0]⟩ 10 W (by decide) h (by decide +kernel) (by decide)
  have f5 := fun W (h : Tab W) => fails_yes ⟨#[0, 0, 0, 0, 0, 0]⟩ 9 W (by decide) h (by decide +kernel) (by decide)
  have HA := Lib.hid hA
  have HE := Lib.hid hE
  have HL := Lib.hid hL
  have HN := Lib.hid hN
  have F1 := Lib.hid f1
  have F2 := Lib.hid f2
  have F3 := Lib.hid f3
  have F4 := Lib.hid f4
  have F5 := Lib.hid f5
  have hAb : 6 ≤ A.size := by omega
  have hEx := hC.symm
  have hTx := hT2.symm
  clear hA hE hL hN f1 f2 f3 f4 f5 hA2 hE2 p1 p2 p3 hTl hCl hC10 hC hT2 hCs
  go_enter Tryd.func8, Tryd.ntmps8
  go_wp2_with fail
  refine HA.out.mono ?_
  rintro r w1 ⟨rfl, hb1⟩
  go_wp2_with fail
  refine (works_any w1 (tab_below hT hb1)).mono ?_
  rintro r w2 ⟨rfl, hb2⟩
  have hb := hb1.trans (hb2.mono hb1.size)
  clear hb1 hb2
  go_wp2_with fail
  refine (F1.out w2 (tab_below hT hb)).mono ?_
  rintro r w3 ⟨rfl, hb1⟩
  have hb2 := hb.trans (hb1.mono hb.size)
  clear hb1 hb
  go_wp2_with fail
  refine (F2.out w3 (tab_below hT hb2)).mono ?_
  rintro r w4 ⟨rfl, hb1⟩
  have hb := hb2.trans (hb1.mono hb2.size)
  clear hb1 hb2
  go_wp2_with fail
  refine (F3.out w4 (tab_below hT hb)).mono ?_
  rintro r w5 ⟨rfl, hb1⟩
  have hb2 := hb.trans (hb1.mono hb.size)
  clear hb1 hb
  go_wp2_with fail
  refine (F4.out w5 (tab_below hT hb2)).mono ?_
  rintro r w6 ⟨rfl, hb1⟩
  have hb := hb2.trans (hb1.mono hb2.size)
  clear hb1 hb2
  go_wp2_with fail
  refine (F5.out w6 (tab_below hT hb)).mono ?_
  rintro r w7 ⟨rfl, hb1⟩
  have hb2 := hb.trans (hb1.mono hb.size)
  clear hb1 hb
  go_wp2_with fail
  refine (HE.out w7 (tab_below hT hb2)).mono ?_
  rintro r w8 ⟨rfl, hb1⟩
  have hb := hb2.trans (hb1.mono hb2.size)
  clear hb1 hb2
  go_wp2_with fail
  refine (HL.out w8 (tab_below hT hb)).mono ?_
  rintro r w9 ⟨⟨v1, rfl, hown1⟩, hb1⟩
  have hb2 := hb.trans (hb1.mono hb.size)
  clear hb1 hb
  obtain ⟨g1, c1, rfl, k0, k1⟩ := row_two hown1
  have hg1 := (hown1.lt g1 rfl).2
  clear hown1
  have hmk := run_make_row' (P := Tryd.prog) 34 5 (.int .u8 0) 1 Tryd.underlying34 info5 rfl .i64 .i64 4097 (by omega) (by omega) w9
  rw [show ((4097 : Nat) : Int) = 4097 from rfl] at hmk
  have hcv := zeros_conv w9 4097
  have hup : Below w9.heap.size w9 (w9.alloc (.cells (madeCells #[.int .u8 0] 4097) 5)) := (Below.refl _ _).alloc (Nat.le_refl _) _
  have hss : (strOfNums (List.replicate 4097 0)).size = 4097 := zeros_size 4097
  generalize strOfNums (List.replicate 4097 0) = z at *
  generalize w9.alloc (.cells (madeCells #[.int .u8 0] 4097) 5) = wa at *
  have hb := hb2.trans (hup.mono hb2.size)
  have k2 := (hup.cell (p := ⟨g1, 0, none⟩) hg1).trans k0
  have k3 := (hup.cell (p := ⟨g1, 1, none⟩) hg1).trans k1
  have hg2 := Nat.lt_of_lt_of_le hg1 hup.size
  clear hup hb2 k0 k1 hg1
  have hzl : ¬ z.data.toList.length ≤ 4096 := by rw [← size_list]; omega
  have hpz := put_any z wa (by unfold maxLen; omega) (tab_below hT hb)
  rw [show fputE z.data.toList = 3 by unfold fputE; rw [if_neg hzl]] at hpz
  have HPZ := Lib.hid hpz
  clear hpz hzl
  go_wp2_with fail
  refine HPZ.out.mono ?_
  rintro r wb ⟨rfl, hb1⟩
  have hb2 := hb.trans (hb1.mono hb.size)
  have k0 := (hb1.cell (p := ⟨g1, 0, none⟩) hg2).trans k2
  have k1 := (hb1.cell (p := ⟨g1, 1, none⟩) hg2).trans k3
  have hg1 := Nat.lt_of_lt_of_le hg2 hb1.size
  clear hb1 hb k2 k3 hg2 hmk hcv hss HPZ
  go_wp2_with fail
  refine (HN.out wb (tab_below hT hb2)).mono ?_
  rintro r wc ⟨⟨v2, rfl, hown2⟩, hb1⟩
  have hb := hb2.trans (hb1.mono hb2.size)
  have k2 := (hb1.cell (p := ⟨g1, 0, none⟩) hg1).trans k0
  have k3 := (hb1.cell (p := ⟨g1, 1, none⟩) hg1).trans k1
  obtain ⟨b2, c2, rfl⟩ := row_slice hown2
  rw [show (faP (⟨#[]⟩ : ByteArray).size (⟨#[]⟩ : ByteArray).data.toList).length = 0 from rfl]
  rw [show faU (⟨#[]⟩ : ByteArray).size (⟨#[]⟩ : ByteArray).data.toList = 0 from rfl, show faE (⟨#[]⟩ : ByteArray).size (⟨#[]⟩ : ByteArray).data.toList = 0 from rfl]
  clear hown2 hb1 hb2 k0 k1 hg1
  have k4 : wc.cell? ⟨g1, 0, none⟩ = some (.string ⟨#[97]⟩) := k2
  have k5 : wc.cell? ⟨g1, 1, none⟩ = some (.string ⟨#[]⟩) := k3
  have hmk := run_make_row' (P := Tryd.prog) 34 5 (.int .u8 0) 1 Tryd.underlying34 info5 rfl .i64 .i64 4096 (by omega) (by omega) wc
  rw [show ((4096 : Nat) : Int) = 4096 from rfl] at hmk
  have hcv := zeros_conv wc 4096
  have hup : Below wc.heap.size wc (wc.alloc (.cells (madeCells #[.int .u8 0] 4096) 5)) := (Below.refl _ _).alloc (Nat.le_refl _) _
  have hss : (strOfNums (List.replicate 4096 0)).size = 4096 := zeros_size 4096
  generalize strOfNums (List.replicate 4096 0) = y at *
  generalize wc.alloc (.cells (madeCells #[.int .u8 0] 4096) 5) = wd at *
  have hb2 := hb.trans (hup.mono hb.size)
  clear hb hup k2 k3
  have hpy := lput_any y wd (by unfold maxLen; omega) (tab_below hT hb2)
  obtain ⟨Y, hY⟩ : ∃ Y, Y = bs (fput y.data.toList) := ⟨_, rfl⟩
  have hYs : Y.size = 4102 := by rw [hY, bs_size, fput_length (by rw [← size_list]; omega), ← size_list, hss]
  rw [← hY] at hpy
  have HPY := Lib.hid hpy
  clear hpy hY
  go_wp2_with fail
  refine HPY.out.mono ?_
  rintro r we ⟨rfl, hb1⟩
  have hb := hb2.trans (hb1.mono hb2.size)
  clear hb1 hb2 hmk hcv
  go_wp2_with fail
  refine (works_any we (tab_below hT hb)).mono ?_
  rintro r wf ⟨rfl, hb1⟩
  have hb2 := hb.trans (hb1.mono hb.size)
  go_wp2
  go_ret
  exact ⟨rfl, hb2⟩
end Go.Proofs.YtgmnojignnjejaaDoor.Frame
