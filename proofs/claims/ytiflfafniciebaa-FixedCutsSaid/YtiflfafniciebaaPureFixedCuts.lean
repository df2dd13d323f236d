/- P1.3: a number within two others, and one divided to 0, are the document's. No conditions. -/
import Derived.Test.YtiflfafniciebaaPFixedCutsx1
import Derived.Test.YtiflfafniciebaaMath
namespace Go.Proofs.Ytiflfafniciebaa.Pure
namespace FixedCutsParts
open Go.RowKit Go.Proofs.Ytiflfafniciebaa.PFixedCuts Go.Proofs.YtiflfafniciebaaW.PrintWords Go.Proofs.YtiflfafniciebaaW.PrintLast Go.Proofs.Ytiflfafniciebaa.FixMath

theorem w64 {x : Int} (h0 : -9223372036854775808 ≤ x) (h1 : x ≤ 9223372036854775807) : wrap64 x = x := by unfold wrap64; omega
theorem w32 {x : Int} (h0 : -2147483648 ≤ x) (h1 : x ≤ 2147483647) : wrap32 x = x := by unfold wrap32; omega
theorem i32 {a : Int} (h : (Lit.int .i32 a).wf = true) : -2147483648 ≤ a ∧ a ≤ 2147483647 := by
  simp [Lit.wf, IntKind.min, IntKind.max, IntKind.signed, IntKind.bits] at h
  omega
theorem awakes (k : Nat) (hk : 30 ≤ k) : hindcastlaw01_awake.f k = some true := at_rounds hindcastlaw01_awake.mono hk (by decide +kernel)
/-- A whole number within the ends. -/
def cl (x : Int) : Int := mx (-2147483648) (mn x 2147483647)
theorem cl_cases (x : Int) : (x < -2147483648 ∧ cl x = -2147483648) ∨ (x > 2147483647 ∧ cl x = 2147483647) ∨ (-2147483648 ≤ x ∧ x ≤ 2147483647 ∧ cl x = x) := by
  unfold cl mx mn
  by_cases h1 : 2147483647 < x
  · rw [if_pos h1, if_pos (by omega)]; omega
  · rw [if_neg h1]
    by_cases h2 : -2147483648 < x
    · rw [if_pos h2]; omega
    · rw [if_neg h2]; omega
theorem bounded (x : Int) : fixed_bounded_int64.f x = some (cl x) := rfl

theorem rbounded (x : Int) : hindcastref01_Bounded.f x = some (cl x) := by
  unfold hindcastref01_Bounded.f
  have h := cl_cases x
  by_cases h1 : x < -2147483648
  · rw [if_pos h1]; congr 1; omega
  · rw [if_neg h1]
    by_cases h2 : x > 2147483647
    · rw [if_pos h2]; congr 1; omega
    · rw [if_neg h2, w32 (by omega) (by omega)]; congr 1; omega

end FixedCutsParts
open Go.RowKit Go.Proofs.Ytiflfafniciebaa.PFixedCuts Go.Proofs.YtiflfafniciebaaW.PrintWords Go.Proofs.YtiflfafniciebaaW.PrintLast Go.Proofs.Ytiflfafniciebaa.FixMath FixedCutsParts

theorem FixedCuts : hindcastlaw01_FixedCuts.Pure := by
  intro n a b hn ha hb
  have hn := i32 hn
  have ha := i32 ha
  have hb := i32 hb
  refine ⟨40, ?_⟩
  have e1 : hindcastref01_Clamp.f 40 n a b = some (mx a (mn n b)) := by
    unfold hindcastref01_Clamp.f
    simp only [hindcastref01_Clamp.j0, mx, mn, decide_eq_true_eq, if_true]
    repeat' split
    all_goals (first | rfl | (congr 1; omega))
  have e2 : hindcastref01_Trunc.f n a = fixed_Trunc.f n a := by
    unfold hindcastref01_Trunc.f fixed_Trunc.f
    simp only [bounded, rbounded, Option.bind_some]
  have e3 : ∃ x, fixed_Trunc.f n a = some x := by
    unfold fixed_Trunc.f
    rw [w64 (x := a) (by omega) (by omega)]
    by_cases h : a = 0
    · rw [if_pos h]; exact ⟨_, rfl⟩
    · rw [if_neg h, if_neg h]; exact ⟨_, rfl⟩
  obtain ⟨x, hx⟩ := e3
  unfold hindcastlaw01_FixedCuts.f fixed_Clamp.f
  rw [e1, e2, hx]
  simp only [Option.bind_some, if_true, awakes 40 (by omega)]

end Go.Proofs.Ytiflfafniciebaa.Pure
