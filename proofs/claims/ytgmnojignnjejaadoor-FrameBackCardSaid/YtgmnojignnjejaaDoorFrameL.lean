/- The law FrameLong: walked. Condition: the world holds the table. -/
import Derived.Test.YtgmnojignnjejaaDoorFrameH
namespace Go.Proofs.YtgmnojignnjejaaDoor.Frame
open Go.RowKit Go.Proofs.YtgmnojignnjejaaDoor.Crc Go.Proofs.YtgmnojignnjejaaDoor.Codec Go.Proofs.YtgmnojignnjejaaDoor.CrcWalk
set_option linter.unusedVariables false
theorem zeros_size (n : Nat) : (strOfNums (List.replicate n 0)).size = n := by rw [strOfNums_size, List.length_replicate]
/-- A new row of n bytes of 0, as a text. -/
theorem zeros_conv (w : World) (n : Nat) : ∀ dst, Tryd.prog.underlying dst = some .string → (convert 34 dst (.slice (some ⟨w.heap.size, 0, none⟩) n n)).run Tryd.prog (w.alloc (.cells (madeCells #[.int .u8 0] n) 5)) = .ok (.string (strOfNums (List.replicate n 0))) (w.alloc (.cells (madeCells #[.int .u8 0] n) 5)) := by
  refine run_convert_bytes_arg (w.alloc (.cells (madeCells #[.int .u8 0] n) 5)) 34 5 Tryd.underlying34 Tryd.underlying5 w.heap.size 0 n n (List.replicate n 0) (by simp) fun i hi => ?_
  rw [Nat.zero_add, World.cell?_alloc_new, ← Array.getElem?_toList, show (madeCells #[Value.int .u8 0] n).toList = List.replicate n (.int .u8 0) from toList_madeCells_one _ _]
  simp [hi, List.getD]
theorem fput_size (l : List UInt8) : (fput l).length ≤ l.length + 6 := by
  by_cases h : l.length ≤ 4096
  · exact Nat.le_of_eq (by rw [fput_length h]; omega)
  · unfold fput; rw [if_neg h]; exact Nat.zero_le _
set_option maxRecDepth 100000 in
/-- P4.1 to P4.3: the law FrameLong. -/
theorem long_law (n : Nat) (more : Bool) (w : World) (hn : n < 65536) (hT : Tab w) :
    Calls Tryd.prog 6 #[.int .u16 n, .bool more] w fun r w' => r = .returned (.bool true) ∧ Below w.heap.size w w' := by
  obtain ⟨q, hq⟩ : ∃ q, q = n % 9000 := ⟨_, rfl⟩
  have hq1 : q < 9000 := by omega
  have e1 : (n : Int) % 9000 = (q : Int) := by omega
  have hmk := fun kl kc => run_make_row' (P := Tryd.prog) 34 5 (.int .u8 0) 1 Tryd.underlying34 info5 rfl kl kc q (by omega) (by omega) w
  have hcv := zeros_conv w q
  have hup : Below w.heap.size w (w.alloc (.cells (madeCells #[.int .u8 0] q) 5)) := (Below.refl _ _).alloc (Nat.le_refl _) _
  have hss : (strOfNums (List.replicate q 0)).size = q := zeros_size q
  generalize strOfNums (List.replicate q 0) = s at *
  generalize w.alloc (.cells (madeCells #[.int .u8 0] q) 5) = w0 at *
  have hs9 : s.size ≤ 9000 := by omega
  have hmk := hmk .u16 .u16
  have hT0 := tab_below hT hup
  have HR := Lib.hid (rput_any s w0 (by unfold maxLen; omega))
  obtain ⟨F, hF⟩ : ∃ F, F = bs (fput s.data.toList) := ⟨_, rfl⟩
  have hFs : F.size ≤ 9006 := by rw [hF, bs_size]; have := fput_size s.data.toList; have := size_list s; omega
  have hr := HR.out
  rw [← hF] at hr
  have HR := Lib.hid hr
  have HQ := Lib.hid hq
  clear hr hF hq
  go_enter Tryd.func6, Tryd.ntmps6
  go_wp2_with fail
  refine HR.out.mono ?_
  rintro r w1 ⟨rfl, hb1⟩
  have hb2 := hup.trans (hb1.mono hup.size)
  have hT1 := tab_below hT hb2
  clear hb1 hup
  have hA : ((⟨#[1, 16, 0, 0, 0, 0]⟩ : ByteArray) ++ s).size ≤ maxLen := by rw [ByteArray.size_append]; unfold maxLen; show 6 + s.size ≤ _; omega
  have hB : ((⟨#[0, 16, 0, 0, 0, 0]⟩ : ByteArray) ++ s).size ≤ maxLen := by rw [ByteArray.size_append]; unfold maxLen; show 6 + s.size ≤ _; omega
  have hC : (F ++ (⟨#[120]⟩ : ByteArray)).size ≤ maxLen := by rw [ByteArray.size_append]; unfold maxLen; show F.size + 1 ≤ _; omega
  have HA := Lib.hid hA
  have HB := Lib.hid hB
  have HC := Lib.hid hC
  clear hA hB hC hmk hcv
  cases more with
  | false =>
    go_wp2_with fail
    refine (puts_law s w1 (by unfold maxLen; omega) hT1).mono ?_
    rintro r w2 ⟨rfl, hb3⟩
    have hb4 := hb2.trans (hb3.mono hb2.size)
    clear hb3 hb2
    go_wp2_with fail
    refine (reads_law F w2 (by unfold maxLen; omega) (tab_below hT hb4)).mono ?_
    rintro r w3 ⟨rfl, hb5⟩
    have hb6 := hb4.trans (hb5.mono hb4.size)
    clear hb5 hb4
    go_wp2_with fail
    refine (reads_law _ w3 HA.out (tab_below hT hb6)).mono ?_
    rintro r w4 ⟨rfl, hb7⟩
    have hb8 := hb6.trans (hb7.mono hb6.size)
    clear hb7 hb6
    go_wp2_with fail
    refine (reads_law _ w4 HB.out (tab_below hT hb8)).mono ?_
    rintro r w5 ⟨rfl, hb9⟩
    have hb10 := hb8.trans (hb9.mono hb8.size)
    clear hb8 hb9
    go_wp2_with fail
    refine (works_any w5 (tab_below hT hb10)).mono ?_
    rintro r w6 ⟨rfl, hb11⟩
    have hb12 := hb10.trans (hb11.mono hb10.size)
    go_wp2
    go_ret
    exact ⟨rfl, hb12⟩
  | true =>
    go_wp2_with fail
    refine (puts_law s w1 (by unfold maxLen; omega) hT1).mono ?_
    rintro r w2 ⟨rfl, hb3⟩
    have hb4 := hb2.trans (hb3.mono hb2.size)
    clear hb3 hb2
    go_wp2_with fail
    refine (reads_law _ w2 HC.out (tab_below hT hb4)).mono ?_
    rintro r w3 ⟨rfl, hb5⟩
    have hb6 := hb4.trans (hb5.mono hb4.size)
    clear hb5 hb4
    go_wp2_with fail
    refine (reads_law _ w3 HA.out (tab_below hT hb6)).mono ?_
    rintro r w4 ⟨rfl, hb7⟩
    have hb8 := hb6.trans (hb7.mono hb6.size)
    clear hb7 hb6
    go_wp2_with fail
    refine (reads_law _ w4 HB.out (tab_below hT hb8)).mono ?_
    rintro r w5 ⟨rfl, hb9⟩
    have hb10 := hb8.trans (hb9.mono hb8.size)
    clear hb8 hb9
    go_wp2_with fail
    refine (works_any w5 (tab_below hT hb10)).mono ?_
    rintro r w6 ⟨rfl, hb11⟩
    have hb12 := hb10.trans (hb11.mono hb10.size)
    go_wp2
    go_ret
    exact ⟨rfl, hb12⟩
end Go.Proofs.YtgmnojignnjejaaDoor.Frame
