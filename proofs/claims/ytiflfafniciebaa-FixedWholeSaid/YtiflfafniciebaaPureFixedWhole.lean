/- P1.1: whole numbers as numbers, and back, are the document's. No conditions. -/
import Derived.Test.YtiflfafniciebaaPFixedWholex1
import Derived.Test.YtiflfafniciebaaMath
namespace Go.Proofs.Ytiflfafniciebaa.Pure
namespace FixedWholeParts
open Go.RowKit Go.Proofs.Ytiflfafniciebaa.PFixedWhole Go.Proofs.YtiflfafniciebaaW.PrintWords Go.Proofs.YtiflfafniciebaaW.PrintLast Go.Proofs.Ytiflfafniciebaa.FixMath

theorem w64 {x : Int} (h0 : -9223372036854775808 ≤ x) (h1 : x ≤ 9223372036854775807) : wrap64 x = x := by unfold wrap64; omega
theorem w32 {x : Int} (h0 : -2147483648 ≤ x) (h1 : x ≤ 2147483647) : wrap32 x = x := by unfold wrap32; omega
theorem i32 {a : Int} (h : (Lit.int .i32 a).wf = true) : -2147483648 ≤ a ∧ a ≤ 2147483647 := by
  simp [Lit.wf, IntKind.min, IntKind.max, IntKind.signed, IntKind.bits] at h
  omega
theorem awakes (k : Nat) (hk : 30 ≤ k) : hindcastlaw01_awake.f k = some true := at_rounds hindcastlaw01_awake.mono hk (by decide +kernel)
/-- A whole number within the ends. -/
def cl (x : Int) : Int := mx (-2147483648) (mn x 2147483647)
theorem cl_cases (x : Int) : (x < -2147483648 ∧ cl x = -2147483648) ∨ (x > 2147483647 ∧ cl x = 2147483647) ∨ (-2147483648 ≤ x ∧ x ≤ 2147483647 ∧ cl x = x) := by
  unfold cl mx mn
  by_cases h1 : 2147483647 < x
  · rw [if_pos h1, if_pos (by omega)]; omega
  · rw [if_neg h1]
    by_cases h2 : -2147483648 < x
    · rw [if_pos h2]; omega
    · rw [if_neg h2]; omega
theorem bounded (x : Int) : fixed_bounded_int64.f x = some (cl x) := rfl

theorem rbounded (x : Int) : hindcastref01_Bounded.f x = some (cl x) := by
  unfold hindcastref01_Bounded.f
  have h := cl_cases x
  by_cases h1 : x < -2147483648
  · rw [if_pos h1]; congr 1; omega
  · rw [if_neg h1]
    by_cases h2 : x > 2147483647
    · rw [if_pos h2]; congr 1; omega
    · rw [if_neg h2, w32 (by omega) (by omega)]; congr 1; omega

theorem below_eq {a b : Int} (hb : 0 < b) (h0 : -4611686018427387904 ≤ a) (h1 : a ≤ 4611686018427387904) : fixed_below.f a b = some (a / b) := by
  unfold fixed_below.f
  rw [if_neg (by omega)]
  have hd := fl_bd a hb (m := 4611686018427387904) (by decide) h0 h1
  by_cases ha : 0 ≤ a
  · rw [tm_pos ha, td_pos ha, if_neg (by have := Int.emod_nonneg a (Int.ne_of_gt hb); omega), w64 (by omega) (by omega)]
  · have hn := fl_bd (-a) hb (m := 4611686018427387904) (by decide) (by omega) (by omega)
    have hm := Int.emod_nonneg (-a) (Int.ne_of_gt hb)
    rw [tm_neg (by omega), td_neg (by omega)]
    by_cases h : 0 < (-a) % b
    · have := fl_neg1 hb h
      rw [Int.neg_neg] at this
      rw [if_pos (by omega), w64 (x := -(-a / b)) (by omega) (by omega), w64 (by omega) (by omega), this]
    · have := fl_neg0 (m := -a) hb (by omega)
      rw [Int.neg_neg] at this
      rw [if_neg (by omega), w64 (x := -(-a / b)) (by omega) (by omega), this]

theorem rbelow_pos {a b : Int} (hb : 0 < b) (hb2 : b ≤ 4294967296) (h0 : -4611686018427387904 ≤ a) (h1 : a ≤ 4611686018427387904) : hindcastref01_Below.f a b = some (a / b) := by
  unfold hindcastref01_Below.f
  rw [if_neg (show ¬ b < 0 by omega)]
  have hd := fl_bd a hb (m := 4611686018427387904) (by decide) h0 h1
  by_cases ha : a ≥ 0
  · rw [if_pos ha, if_neg (by omega), td_pos ha, w64 (by omega) (by omega)]
  · have hn := fl_ceil (m := -a) hb
    rw [Int.neg_neg] at hn
    rw [if_neg ha, if_neg (by omega), w64 (x := -a) (by omega) (by omega), w64 (x := -a + b) (by omega) (by omega), w64 (x := -a + b - 1) (by omega) (by omega), td_pos (by omega)]
    rw [w64 (x := (-a + b - 1) / b) (by omega) (by omega), w64 (by omega) (by omega), hn]
theorem rbelow_neg {a b : Int} (hb : b < 0) (hb2 : -4294967296 ≤ b) (h0 : -4611686018427387904 ≤ a) (h1 : a ≤ 4611686018427387904) : hindcastref01_Below.f a b = some (-a / -b) := by
  have h := rbelow_pos (a := -a) (b := -b) (by omega) (by omega) (by omega) (by omega)
  unfold hindcastref01_Below.f at h ⊢
  rw [if_neg (show ¬ -b < 0 by omega)] at h
  rw [if_pos hb, w64 (x := -a) (by omega) (by omega), w64 (x := -b) (by omega) (by omega)]
  exact h

end FixedWholeParts
open Go.RowKit Go.Proofs.Ytiflfafniciebaa.PFixedWhole Go.Proofs.YtiflfafniciebaaW.PrintWords Go.Proofs.YtiflfafniciebaaW.PrintLast Go.Proofs.Ytiflfafniciebaa.FixMath FixedWholeParts

theorem FixedWhole : hindcastlaw01_FixedWhole.Pure := by
  intro n a hn ha
  have ha := i32 ha
  have e : fixed_Of.f n = some (cl (if n > 10000000 then 2147483647 else if n < -10000000 then -2147483648 else n * 256)) := by
    unfold fixed_Of.f
    by_cases h1 : n > 8388607
    · rw [if_pos h1]
      by_cases h2 : n > 10000000
      · rw [if_pos h2]; rfl
      · rw [if_neg h2, if_neg (by omega)]
        have hc := cl_cases (n * 256)
        congr 1; omega
    · rw [if_neg h1]
      by_cases h2 : n < -8388608
      · rw [if_pos h2, if_neg (by omega)]
        by_cases h3 : n < -10000000
        · rw [if_pos h3]; rfl
        · rw [if_neg h3]
          have hc := cl_cases (n * 256)
          congr 1; omega
      · rw [if_neg h2, if_neg (by omega), if_neg (by omega), w64 (by omega) (by omega)]
        rfl
  have e2 : hindcastref01_Of.f n = some (cl (if n > 10000000 then 2147483647 else if n < -10000000 then -2147483648 else n * 256)) := by
    unfold hindcastref01_Of.f
    by_cases h1 : n > 10000000
    · rw [if_pos h1, if_pos h1]; rfl
    · rw [if_neg h1, if_neg h1]
      by_cases h2 : n < -10000000
      · rw [if_pos h2, if_pos h2]; rfl
      · rw [if_neg h2, if_neg h2, rbounded, w64 (by omega) (by omega)]; rfl
  refine ⟨30, ?_⟩
  unfold hindcastlaw01_FixedWhole.f fixed_Whole.f hindcastref01_Whole.f
  rw [e, e2, w64 (x := a) (by omega) (by omega), below_eq (by decide) (by omega) (by omega), rbelow_pos (by decide) (by decide) (by omega) (by omega)]
  simp only [Option.bind_some, if_true, awakes 30 (Nat.le_refl _)]

end Go.Proofs.Ytiflfafniciebaa.Pure
