/- P1.1: sums, differences, and numbers without and with another sign are the document's. No conditions. -/
import Derived.Test.YtiflfafniciebaaPFixedSumsx1
import Derived.Test.YtiflfafniciebaaMath
namespace Go.Proofs.Ytiflfafniciebaa.Pure
namespace FixedSumsParts
open Go.RowKit Go.Proofs.Ytiflfafniciebaa.PFixedSums Go.Proofs.YtiflfafniciebaaW.PrintWords Go.Proofs.YtiflfafniciebaaW.PrintLast Go.Proofs.Ytiflfafniciebaa.FixMath

theorem w64 {x : Int} (h0 : -9223372036854775808 ≤ x) (h1 : x ≤ 9223372036854775807) : wrap64 x = x := by unfold wrap64; omega
theorem w32 {x : Int} (h0 : -2147483648 ≤ x) (h1 : x ≤ 2147483647) : wrap32 x = x := by unfold wrap32; omega
theorem i32 {a : Int} (h : (Lit.int .i32 a).wf = true) : -2147483648 ≤ a ∧ a ≤ 2147483647 := by
  simp [Lit.wf, IntKind.min, IntKind.max, IntKind.signed, IntKind.bits] at h
  omega
theorem awakes (k : Nat) (hk : 30 ≤ k) : hindcastlaw01_awake.f k = some true := at_rounds hindcastlaw01_awake.mono hk (by decide +kernel)
/-- A whole number within the ends. -/
def cl (x : Int) : Int := mx (-2147483648) (mn x 2147483647)
theorem cl_cases (x : Int) : (x < -2147483648 ∧ cl x = -2147483648) ∨ (x > 2147483647 ∧ cl x = 2147483647) ∨ (-2147483648 ≤ x ∧ x ≤ 2147483647 ∧ cl x = x) := by
  unfold cl mx mn
  by_cases h1 : 2147483647 < x
  · rw [if_pos h1, if_pos (by omega)]; omega
  · rw [if_neg h1]
    by_cases h2 : -2147483648 < x
    · rw [if_pos h2]; omega
    · rw [if_neg h2]; omega
theorem bounded (x : Int) : fixed_bounded_int64.f x = some (cl x) := rfl

theorem rbounded (x : Int) : hindcastref01_Bounded.f x = some (cl x) := by
  unfold hindcastref01_Bounded.f
  have h := cl_cases x
  by_cases h1 : x < -2147483648
  · rw [if_pos h1]; congr 1; omega
  · rw [if_neg h1]
    by_cases h2 : x > 2147483647
    · rw [if_pos h2]; congr 1; omega
    · rw [if_neg h2, w32 (by omega) (by omega)]; congr 1; omega

end FixedSumsParts
open Go.RowKit Go.Proofs.Ytiflfafniciebaa.PFixedSums Go.Proofs.YtiflfafniciebaaW.PrintWords Go.Proofs.YtiflfafniciebaaW.PrintLast Go.Proofs.Ytiflfafniciebaa.FixMath FixedSumsParts

theorem FixedSums : hindcastlaw01_FixedSums.Pure := by
  intro a b ha hb
  have ha := i32 ha
  have hb := i32 hb
  refine ⟨30, ?_⟩
  have eabs : fixed_Abs.f a = hindcastref01_Abs.f a := by
    unfold fixed_Abs.f hindcastref01_Abs.f fixed_Neg.f hindcastref01_Neg.f
    simp only [bounded, rbounded, Option.bind_some]
    rw [w64 (x := a) (by omega) (by omega), w64 (x := -a) (by omega) (by omega)]
    have hc := cl_cases (-a)
    unfold mx
    by_cases h : a < 0
    · rw [if_pos h, if_pos (by omega)]
    · rw [if_neg h, if_neg (by omega)]
  have habs : ∃ x, hindcastref01_Abs.f a = some x := by
    unfold hindcastref01_Abs.f hindcastref01_Neg.f
    simp only [rbounded, Option.bind_some]
    split <;> exact ⟨_, rfl⟩
  obtain ⟨x, hx⟩ := habs
  unfold hindcastlaw01_FixedSums.f fixed_Add.f fixed_Sub.f fixed_Neg.f hindcastref01_Add.f hindcastref01_Sub.f hindcastref01_Neg.f
  rw [eabs, hx]
  simp only [bounded, rbounded, Option.bind_some, if_true, awakes 30 (Nat.le_refl _)]

end Go.Proofs.Ytiflfafniciebaa.Pure
