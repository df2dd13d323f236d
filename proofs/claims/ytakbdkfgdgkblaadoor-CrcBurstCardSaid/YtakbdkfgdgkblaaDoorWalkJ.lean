/- What the document's Join of the layer crc answers, and what the law CrcJoins answers: true. Condition: the world holds the table. -/
import Derived.Test.YtakbdkfgdgkblaaDoorWalkB
namespace Go.Proofs.YtakbdkfgdgkblaaDoor.CrcWalk
open Go.RowKit Go.Proofs.YtakbdkfgdgkblaaDoor.Crc
set_option linter.unusedVariables false
theorem info5 : (Tryd.prog.info? 5).map (fun i => (i.zero, i.size, i.bytes)) = some (some (.int .u8 0), 1, 1) := by kernel_rfl
theorem zeros_str (n : Nat) : (strOfNums (List.replicate n 0)).data.toList = List.replicate n 0 := by rw [strOfNums_data, List.map_replicate]; rfl
theorem zeros_size (n : Nat) : (strOfNums (List.replicate n 0)).size = n := by rw [strOfNums_size, List.length_replicate]
/-- A new row of n bytes of 0, as a text. -/
theorem zeros_conv (w : World) (n : Nat) : ∀ dst, Tryd.prog.underlying dst = some .string → (convert 30 dst (.slice (some ⟨w.heap.size, 0, none⟩) n n)).run Tryd.prog (w.alloc (.cells (madeCells #[.int .u8 0] n) 5)) = .ok (.string (strOfNums (List.replicate n 0))) (w.alloc (.cells (madeCells #[.int .u8 0] n) 5)) := by
  refine run_convert_bytes_arg (w.alloc (.cells (madeCells #[.int .u8 0] n) 5)) 30 5 Tryd.underlying30 Tryd.underlying5 w.heap.size 0 n n (List.replicate n 0) (by simp) fun i hi => ?_
  rw [Nat.zero_add, World.cell?_alloc_new, ← Array.getElem?_toList, show (madeCells #[Value.int .u8 0] n).toList = List.replicate n (.int .u8 0) from toList_madeCells_one _ _]
  simp [hi, List.getD]
set_option maxRecDepth 100000 in
/-- What the document's 'Join' answers. -/
theorem rjoin_any (a b : Nat) (n : Int) (w : World) (ha : a < 4294967296) (hb : b < 4294967296) (hn0 : -9223372036854775808 ≤ n) (hn1 : n ≤ 9223372036854775807) :
    Calls Tryd.prog 15 #[.int .u32 a, .int .u32 b, .int .i64 n] w fun e w' => e = .returned (.int .u32 (join a b (cut n) : Nat)) ∧ Below w.heap.size w w' := by
  have core : ∀ (q : Nat), q = cut n → q ≤ 1048576 → (n < 0 ∧ (q : Int) = 0 ∨ 0 ≤ n ∧ 1048576 < n ∧ (q : Int) = 1048576 ∨ 0 ≤ n ∧ n ≤ 1048576 ∧ (q : Int) = n) → Calls Tryd.prog 15 #[.int .u32 a, .int .u32 b, .int .i64 n] w fun e w' => e = .returned (.int .u32 (join a b (cut n) : Nat)) ∧ Below w.heap.size w w' := by
    intro q hq hq1 hcase
    have x0 := crc_lt ha (List.replicate q 0)
    have y0 := crc_lt (c := 0) (by decide) (List.replicate q 0)
    have z0 : crc a (List.replicate q 0) ^^^ b < 2 ^ 32 := Nat.xor_lt_two_pow x0 hb
    have e1 := u32_xor_nat _ b x0 hb
    have e2 := u32_xor_nat _ _ z0 y0
    have hj : Hid (join a b (cut n) = crc a (List.replicate q 0) ^^^ b ^^^ crc 0 (List.replicate q 0)) := Lib.hid (by rw [← hq]; rfl)
    have hmk := fun kl kc => run_make_row' (P := Tryd.prog) 30 5 (.int .u8 0) 1 Tryd.underlying30 info5 rfl kl kc q (by omega) (by omega) w
    have hcv := zeros_conv w q
    have hup : Below w.heap.size w (w.alloc (.cells (madeCells #[.int .u8 0] q) 5)) := (Below.refl _ _).alloc (Nat.le_refl _) _
    have up1 : ∀ c : Nat, c < 4294967296 → Calls Tryd.prog 13 #[.int .u32 c, .string (strOfNums (List.replicate q 0))] (w.alloc (.cells (madeCells #[.int .u8 0] q) 5)) fun e w' => e = .returned (.int .u32 (crc c (List.replicate q 0) : Nat)) ∧ (w.alloc (.cells (madeCells #[.int .u8 0] q) 5)) = w' := fun c hc => by
      have := rupdate_any c (strOfNums (List.replicate q 0)) (w.alloc (.cells (madeCells #[.int .u8 0] q) 5)) hc (by rw [zeros_size]; unfold maxLen; omega)
      rwa [zeros_str] at this
    have up2 : Calls Tryd.prog 11 #[.string (strOfNums (List.replicate q 0))] (w.alloc (.cells (madeCells #[.int .u8 0] q) 5)) fun e w' => e = .returned (.int .u32 (crc 0 (List.replicate q 0) : Nat)) ∧ (w.alloc (.cells (madeCells #[.int .u8 0] q) 5)) = w' := by
      have := rsum_any (strOfNums (List.replicate q 0)) (w.alloc (.cells (madeCells #[.int .u8 0] q) 5)) (by rw [zeros_size]; unfold maxLen; omega)
      rwa [zeros_str] at this
    have U1 := Lib.hid up1
    have U2 := Lib.hid up2
    clear up1 up2 hq
    generalize strOfNums (List.replicate q 0) = str at *
    have hmk := hmk .i64 .i64
    rcases hcase with ⟨h, h'⟩ | ⟨h0, h, h'⟩ | ⟨h0, h, h'⟩
    all_goals
      rw [h'] at hmk
      clear h'
      go_enter Tryd.func15, Tryd.ntmps15
      go_wp2_with fail
      refine (U1.out a ha).mono ?_
      rintro e w' ⟨rfl, rfl⟩
      go_wp2_with fail
      refine U2.out.mono ?_
      rintro e w' ⟨rfl, rfl⟩
      go_wp2
      go_ret
      rw [hj.out]
      exact ⟨rfl, hup⟩
  have hc : n < 0 ∨ 0 ≤ n ∧ 1048576 < n ∨ 0 ≤ n ∧ n ≤ 1048576 := by omega
  rcases hc with h | ⟨h0, h⟩ | ⟨h0, h⟩
  · exact core 0 (by unfold cut; rw [if_pos h]) (by omega) (.inl ⟨h, rfl⟩)
  · exact core 1048576 (by unfold cut; rw [if_neg (by omega), if_pos h]) (by omega) (.inr (.inl ⟨h0, h, rfl⟩))
  · exact core n.toNat (by unfold cut; rw [if_neg (by omega), if_neg (by omega)]) (by omega) (.inr (.inr ⟨h0, h, by omega⟩))
end Go.Proofs.YtakbdkfgdgkblaaDoor.CrcWalk
