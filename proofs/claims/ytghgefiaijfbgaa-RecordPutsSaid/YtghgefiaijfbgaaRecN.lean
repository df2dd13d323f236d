/- A record as an argument, opened. No conditions. -/
import Derived.Test.YtghgefiaijfbgaaRecM
import Derived.WalkKit
import Derived.ProofKit
import Derived.OpenShut
import Derived.ShutString
import Derived.Lib.SmallJoins
namespace Go.Proofs.Ytghgefiaijfbgaa.Rec
open Go.ChangeShapes Go.WideShapes Go.ChangeAt Go.RowKit
set_option linter.unusedVariables false
theorem kInt : Try.prog.cellsOf 3 = 1 := by kernel_rfl
theorem kU64 : Try.prog.cellsOf 22 = 1 := by kernel_rfl
theorem kU8 : Try.prog.cellsOf 5 = 1 := by kernel_rfl
theorem kPair : Try.prog.cellsOf 25 = 2 := by kernel_rfl
theorem kRec : Try.prog.cellsOf 27 = 9 := by kernel_rfl
theorem nat_u64 {z : Int} (h : (Lit.int .u64 z).wf = true) : ∃ n : Nat, z = n ∧ n < 18446744073709551616 := by
  simp [Lit.wf, IntKind.min, IntKind.max, IntKind.signed, IntKind.bits] at h
  exact ⟨z.toNat, by omega, by omega⟩
theorem nat_u8 {z : Int} (h : (Lit.int .u8 z).wf = true) : ∃ n : Nat, z = n ∧ n < 256 := by
  simp [Lit.wf, IntKind.min, IntKind.max, IntKind.signed, IntKind.bits] at h
  exact ⟨z.toNat, by omega, by omega⟩
theorem int_i64 {z : Int} (h : (Lit.int .i64 z).wf = true) : -9223372036854775808 ≤ z ∧ z ≤ 9223372036854775807 := by
  simp [Lit.wf, IntKind.min, IntKind.max, IntKind.signed, IntKind.bits] at h
  omega
section
variable {H : Type} {enc : TypeId × Value → H} {W : World} {base : Nat} {spare : Nat → Bool} {held : Bool} {n : Nat}
theorem cell_int {c : Value} {y : DataW H × List MemPlace} (h : DataW.trod enc Try.prog W base spare held n 3 [c] = some y) : ∃ z : Int, c = .int .i64 z ∧ -9223372036854775808 ≤ z ∧ z ≤ 9223372036854775807 := by
  obtain ⟨z, e, _, hw⟩ := DataW.trod_int Try.underlying3 h
  exact ⟨z, by simpa using e, int_i64 hw⟩
theorem cell_u64 {c : Value} {y : DataW H × List MemPlace} (h : DataW.trod enc Try.prog W base spare held n 22 [c] = some y) : ∃ z : Nat, c = .int .u64 z ∧ z < 18446744073709551616 := by
  obtain ⟨z, e, _, hw⟩ := DataW.trod_int Try.underlying22 h
  obtain ⟨m, rfl, hm⟩ := nat_u64 hw
  exact ⟨m, by simpa using e, hm⟩
theorem cell_u8 {c : Value} {y : DataW H × List MemPlace} (h : DataW.trod enc Try.prog W base spare held n 5 [c] = some y) : ∃ z : Nat, c = .int .u8 z ∧ z < 256 := by
  obtain ⟨z, e, _, hw⟩ := DataW.trod_int Try.underlying5 h
  obtain ⟨m, rfl, hm⟩ := nat_u8 hw
  exact ⟨m, by simpa using e, hm⟩
theorem cell_in {c : Value} {y : DataW H × List MemPlace} (h : DataW.trod enc Try.prog W base spare held n 23 [c] = some y) : ∃ z : Nat, c = .int .u8 z ∧ z < 256 := by
  obtain ⟨z, e, _, hw⟩ := DataW.trod_int Try.underlying23 h
  obtain ⟨m, rfl, hm⟩ := nat_u8 hw
  exact ⟨m, by simpa using e, hm⟩
theorem cell_pair {c d : Value} {y : DataW H × List MemPlace} (h : DataW.trod enc Try.prog W base spare held n 25 [c, d] = some y) : ∃ a b : Nat, c = .int .u8 a ∧ a < 256 ∧ d = .int .u8 b ∧ b < 256 := by
  obtain ⟨xs, m, _, _, _, hlen, hg⟩ := DataW.trod_array Try.underlying25 h
  rw [cellsIn] at hg
  match xs, hlen with
  | [y0, y1], _ =>
    obtain ⟨a, ha, la⟩ := cell_in (show DataW.trod enc Try.prog W base spare held m 23 [c] = some y0 from hg 0 (by decide))
    obtain ⟨b, hb, lb⟩ := cell_in (show DataW.trod enc Try.prog W base spare held m 23 [d] = some y1 from hg 1 (by decide))
    exact ⟨a, b, ha, la, hb, lb⟩
theorem open_rec {r0 : Reach} {b0 : Nat} {v : Value} {d : DataW H} {p : List MemPlace} (hv : Value.okWide Try.prog W r0 b0 27 v) (h : DataW.Trod enc Try.prog W base spare held 27 v d p) : ∃ r : R, v = .agg (rc r) ∧ r.wf := by
  obtain ⟨cs, rfl, hsz⟩ := okWide_struct Try.underlying27 hv
  rw [kRec] at hsz
  obtain ⟨l⟩ := cs
  match l, hsz with
  | [c0, c1, c2, c3, c4, c5, c6, c7, c8], _ =>
    obtain ⟨fuel, hf⟩ := h
    obtain ⟨xs, n, _, _, _, hlen, hg⟩ := DataW.trod_struct Try.underlying27 hf
    match xs, hlen with
    | [y0, y1, y2, y3, y4, y5, y6, y7], _ =>
      have g0 : DataW.trod enc Try.prog W base spare held n 3 (((Value.agg #[c0, c1, c2, c3, c4, c5, c6, c7, c8]).cells.toList.drop 0).take (Try.prog.cellsOf 3)) = some y0 := hg 0 _ rfl
      have g1 : DataW.trod enc Try.prog W base spare held n 22 (((Value.agg #[c0, c1, c2, c3, c4, c5, c6, c7, c8]).cells.toList.drop 1).take (Try.prog.cellsOf 22)) = some y1 := hg 1 _ rfl
      have g2 : DataW.trod enc Try.prog W base spare held n 23 (((Value.agg #[c0, c1, c2, c3, c4, c5, c6, c7, c8]).cells.toList.drop 2).take (Try.prog.cellsOf 23)) = some y2 := hg 2 _ rfl
      have g3 : DataW.trod enc Try.prog W base spare held n 25 (((Value.agg #[c0, c1, c2, c3, c4, c5, c6, c7, c8]).cells.toList.drop 3).take (Try.prog.cellsOf 25)) = some y3 := hg 3 _ rfl
      have g4 : DataW.trod enc Try.prog W base spare held n 22 (((Value.agg #[c0, c1, c2, c3, c4, c5, c6, c7, c8]).cells.toList.drop 5).take (Try.prog.cellsOf 22)) = some y4 := hg 4 _ rfl
      have g5 : DataW.trod enc Try.prog W base spare held n 22 (((Value.agg #[c0, c1, c2, c3, c4, c5, c6, c7, c8]).cells.toList.drop 6).take (Try.prog.cellsOf 22)) = some y5 := hg 5 _ rfl
      have g6 : DataW.trod enc Try.prog W base spare held n 22 (((Value.agg #[c0, c1, c2, c3, c4, c5, c6, c7, c8]).cells.toList.drop 7).take (Try.prog.cellsOf 22)) = some y6 := hg 6 _ rfl
      have g7 : DataW.trod enc Try.prog W base spare held n 5 (((Value.agg #[c0, c1, c2, c3, c4, c5, c6, c7, c8]).cells.toList.drop 8).take (Try.prog.cellsOf 5)) = some y7 := hg 7 _ rfl
      rw [kInt] at g0
      rw [kU64] at g1 g4 g5 g6
      rw [cellsIn] at g2
      rw [kPair] at g3
      rw [kU8] at g7
      obtain ⟨k, rfl, hk⟩ := cell_int (show DataW.trod enc Try.prog W base spare held n 3 [c0] = some y0 from g0)
      obtain ⟨a1, rfl, l1⟩ := cell_u64 (show DataW.trod enc Try.prog W base spare held n 22 [c1] = some y1 from g1)
      obtain ⟨a2, rfl, l2⟩ := cell_in (show DataW.trod enc Try.prog W base spare held n 23 [c2] = some y2 from g2)
      obtain ⟨a3, a4, rfl, l3, rfl, l4⟩ := cell_pair (show DataW.trod enc Try.prog W base spare held n 25 [c3, c4] = some y3 from g3)
      obtain ⟨a5, rfl, l5⟩ := cell_u64 (show DataW.trod enc Try.prog W base spare held n 22 [c5] = some y4 from g4)
      obtain ⟨a6, rfl, l6⟩ := cell_u64 (show DataW.trod enc Try.prog W base spare held n 22 [c6] = some y5 from g5)
      obtain ⟨a7, rfl, l7⟩ := cell_u64 (show DataW.trod enc Try.prog W base spare held n 22 [c7] = some y6 from g6)
      obtain ⟨a8, rfl, l8⟩ := cell_u8 (show DataW.trod enc Try.prog W base spare held n 5 [c8] = some y7 from g7)
      exact ⟨⟨k, a1, a2, a3, a4, a5, a6, a7, a8⟩, rfl, ⟨hk, l1, l2, l3, l4, l5, l6, l7, l8⟩⟩
end
end Go.Proofs.Ytghgefiaijfbgaa.Rec
