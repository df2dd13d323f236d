/- P1.2: the quotient of any two numbers is the document's. No conditions. -/
import Derived.Test.YtiflfafniciebaaPFixedPartsx1
import Derived.Test.YtiflfafniciebaaMath
namespace Go.Proofs.Ytiflfafniciebaa.Pure
namespace FixedPartsParts
open Go.RowKit Go.Proofs.Ytiflfafniciebaa.PFixedParts Go.Proofs.YtiflfafniciebaaW.PrintWords Go.Proofs.YtiflfafniciebaaW.PrintLast Go.Proofs.Ytiflfafniciebaa.FixMath

theorem w64 {x : Int} (h0 : -9223372036854775808 ≤ x) (h1 : x ≤ 9223372036854775807) : wrap64 x = x := by unfold wrap64; omega
theorem w32 {x : Int} (h0 : -2147483648 ≤ x) (h1 : x ≤ 2147483647) : wrap32 x = x := by unfold wrap32; omega
theorem i32 {a : Int} (h : (Lit.int .i32 a).wf = true) : -2147483648 ≤ a ∧ a ≤ 2147483647 := by
  simp [Lit.wf, IntKind.min, IntKind.max, IntKind.signed, IntKind.bits] at h
  omega
theorem awakes (k : Nat) (hk : 30 ≤ k) : hindcastlaw01_awake.f k = some true := at_rounds hindcastlaw01_awake.mono hk (by decide +kernel)
/-- A whole number within the ends. -/
def cl (x : Int) : Int := mx (-2147483648) (mn x 2147483647)
theorem cl_cases (x : Int) : (x < -2147483648 ∧ cl x = -2147483648) ∨ (x > 2147483647 ∧ cl x = 2147483647) ∨ (-2147483648 ≤ x ∧ x ≤ 2147483647 ∧ cl x = x) := by
  unfold cl mx mn
  by_cases h1 : 2147483647 < x
  · rw [if_pos h1, if_pos (by omega)]; omega
  · rw [if_neg h1]
    by_cases h2 : -2147483648 < x
    · rw [if_pos h2]; omega
    · rw [if_neg h2]; omega
theorem bounded (x : Int) : fixed_bounded_int64.f x = some (cl x) := rfl

theorem rbounded (x : Int) : hindcastref01_Bounded.f x = some (cl x) := by
  unfold hindcastref01_Bounded.f
  have h := cl_cases x
  by_cases h1 : x < -2147483648
  · rw [if_pos h1]; congr 1; omega
  · rw [if_neg h1]
    by_cases h2 : x > 2147483647
    · rw [if_pos h2]; congr 1; omega
    · rw [if_neg h2, w32 (by omega) (by omega)]; congr 1; omega

theorem below_eq {a b : Int} (hb : 0 < b) (h0 : -4611686018427387904 ≤ a) (h1 : a ≤ 4611686018427387904) : fixed_below.f a b = some (a / b) := by
  unfold fixed_below.f
  rw [if_neg (by omega)]
  have hd := fl_bd a hb (m := 4611686018427387904) (by decide) h0 h1
  by_cases ha : 0 ≤ a
  · rw [tm_pos ha, td_pos ha, if_neg (by have := Int.emod_nonneg a (Int.ne_of_gt hb); omega), w64 (by omega) (by omega)]
  · have hn := fl_bd (-a) hb (m := 4611686018427387904) (by decide) (by omega) (by omega)
    have hm := Int.emod_nonneg (-a) (Int.ne_of_gt hb)
    rw [tm_neg (by omega), td_neg (by omega)]
    by_cases h : 0 < (-a) % b
    · have := fl_neg1 hb h
      rw [Int.neg_neg] at this
      rw [if_pos (by omega), w64 (x := -(-a / b)) (by omega) (by omega), w64 (by omega) (by omega), this]
    · have := fl_neg0 (m := -a) hb (by omega)
      rw [Int.neg_neg] at this
      rw [if_neg (by omega), w64 (x := -(-a / b)) (by omega) (by omega), this]

theorem rbelow_pos {a b : Int} (hb : 0 < b) (hb2 : b ≤ 4294967296) (h0 : -4611686018427387904 ≤ a) (h1 : a ≤ 4611686018427387904) : hindcastref01_Below.f a b = some (a / b) := by
  unfold hindcastref01_Below.f
  rw [if_neg (show ¬ b < 0 by omega)]
  have hd := fl_bd a hb (m := 4611686018427387904) (by decide) h0 h1
  by_cases ha : a ≥ 0
  · rw [if_pos ha, if_neg (by omega), td_pos ha, w64 (by omega) (by omega)]
  · have hn := fl_ceil (m := -a) hb
    rw [Int.neg_neg] at hn
    rw [if_neg ha, if_neg (by omega), w64 (x := -a) (by omega) (by omega), w64 (x := -a + b) (by omega) (by omega), w64 (x := -a + b - 1) (by omega) (by omega), td_pos (by omega)]
    rw [w64 (x := (-a + b - 1) / b) (by omega) (by omega), w64 (by omega) (by omega), hn]
theorem rbelow_neg {a b : Int} (hb : b < 0) (hb2 : -4294967296 ≤ b) (h0 : -4611686018427387904 ≤ a) (h1 : a ≤ 4611686018427387904) : hindcastref01_Below.f a b = some (-a / -b) := by
  have h := rbelow_pos (a := -a) (b := -b) (by omega) (by omega) (by omega) (by omega)
  unfold hindcastref01_Below.f at h ⊢
  rw [if_neg (show ¬ -b < 0 by omega)] at h
  rw [if_pos hb, w64 (x := -a) (by omega) (by omega), w64 (x := -b) (by omega) (by omega)]
  exact h

theorem div_pos {a b : Int} (ha0 : -2147483648 ≤ a) (ha1 : a ≤ 2147483647) (hb : 0 < b) (hb1 : b ≤ 2147483647) : fixed_Div.f a b = some (cl (a * 256 / b)) := by
  unfold fixed_Div.f
  rw [if_pos hb, w64 (x := a) (by omega) (by omega), w64 (x := a * 256) (by omega) (by omega), w64 (x := b) (by omega) (by omega), below_eq hb (by omega) (by omega)]
  rfl
theorem div_neg {a b : Int} (ha0 : -2147483648 ≤ a) (ha1 : a ≤ 2147483647) (hb : b < 0) (hb1 : -2147483648 ≤ b) : fixed_Div.f a b = some (cl (-(a * 256) / -b)) := by
  unfold fixed_Div.f
  rw [if_neg (by omega), if_pos hb, w64 (x := a) (by omega) (by omega), w64 (x := -a) (by omega) (by omega), w64 (x := -a * 256) (by omega) (by omega), w64 (x := b) (by omega) (by omega), w64 (x := -b) (by omega) (by omega), below_eq (by omega) (by omega) (by omega), Int.neg_mul]
  rfl
theorem div_zero (a : Int) : fixed_Div.f a 0 = some (if a > 0 then 2147483647 else if a < 0 then -2147483648 else 0) := by
  unfold fixed_Div.f
  rw [if_neg (by decide), if_neg (by decide)]
  by_cases h1 : a > 0
  · rw [if_pos h1, if_pos h1]
  · rw [if_neg h1, if_neg h1]
    by_cases h2 : a < 0
    · rw [if_pos h2, if_pos h2]
    · rw [if_neg h2, if_neg h2]

theorem rdiv (k : Nat) (hk : 3 ≤ k) {a b : Int} (ha0 : -2147483648 ≤ a) (ha1 : a ≤ 2147483647) (hb0 : -2147483648 ≤ b) (hb1 : b ≤ 2147483647) :
    hindcastref01_Div.f k a b = fixed_Div.f a b := by
  obtain ⟨k, rfl⟩ : ∃ m, k = m + 2 := ⟨k - 2, by omega⟩
  unfold hindcastref01_Div.f
  by_cases h0 : b = 0
  · subst h0
    rw [if_pos rfl, div_zero]
    simp only [hindcastref01_Div.j0, hindcastref01_Div.j1, decide_eq_true_eq, if_true]
    by_cases h1 : a > 0
    · rw [if_pos h1, if_pos h1]
    · rw [if_neg h1, if_neg h1]
      by_cases h2 : a < 0
      · rw [if_pos h2, if_pos h2]
      · rw [if_neg h2, if_neg h2]
  · rw [if_neg h0]
    simp only [hindcastref01_Div.j0, hindcastref01_Div.j1, Bool.false_eq_true, if_false]
    rw [if_neg h0, if_neg h0, w64 (x := a) (by omega) (by omega), w64 (x := a * 256) (by omega) (by omega), w64 (x := b) (by omega) (by omega)]
    by_cases hb : 0 < b
    · rw [rbelow_pos hb (by omega) (by omega) (by omega), div_pos ha0 ha1 hb hb1]
      simp only [Option.bind_some, rbounded]
    · rw [rbelow_neg (by omega) (by omega) (by omega) (by omega), div_neg ha0 ha1 (by omega) hb0]
      simp only [Option.bind_some, rbounded]

end FixedPartsParts
open Go.RowKit Go.Proofs.Ytiflfafniciebaa.PFixedParts Go.Proofs.YtiflfafniciebaaW.PrintWords Go.Proofs.YtiflfafniciebaaW.PrintLast Go.Proofs.Ytiflfafniciebaa.FixMath FixedPartsParts

theorem FixedParts : hindcastlaw01_FixedParts.Pure := by
  intro a b ha hb
  have ha := i32 ha
  have hb := i32 hb
  refine ⟨30, ?_⟩
  unfold hindcastlaw01_FixedParts.f
  rw [rdiv 30 (by omega) ha.1 ha.2 hb.1 hb.2]
  obtain ⟨q, hq⟩ : ∃ q, fixed_Div.f a b = some q := by
    by_cases h : 0 < b
    · exact ⟨_, div_pos ha.1 ha.2 h hb.2⟩
    · by_cases h' : b < 0
      · exact ⟨_, div_neg ha.1 ha.2 h' hb.1⟩
      · obtain rfl : b = 0 := by omega
        exact ⟨_, div_zero a⟩
  rw [hq]
  simp only [Option.bind_some, if_true, awakes 30 (Nat.le_refl _)]

end Go.Proofs.Ytiflfafniciebaa.Pure
