/- P1.4: the quotient, if it is no end, times the divisor is the nearest that is not beyond 256 times the number. No conditions. -/
import Derived.Test.YtiflfafniciebaaPFixedNearx1
import Derived.Test.YtiflfafniciebaaMath
namespace Go.Proofs.Ytiflfafniciebaa.Pure
namespace FixedNearParts
open Go.RowKit Go.Proofs.Ytiflfafniciebaa.PFixedNear Go.Proofs.YtiflfafniciebaaW.PrintWords Go.Proofs.YtiflfafniciebaaW.PrintLast Go.Proofs.Ytiflfafniciebaa.FixMath

theorem w64 {x : Int} (h0 : -9223372036854775808 ≤ x) (h1 : x ≤ 9223372036854775807) : wrap64 x = x := by unfold wrap64; omega
theorem w32 {x : Int} (h0 : -2147483648 ≤ x) (h1 : x ≤ 2147483647) : wrap32 x = x := by unfold wrap32; omega
theorem i32 {a : Int} (h : (Lit.int .i32 a).wf = true) : -2147483648 ≤ a ∧ a ≤ 2147483647 := by
  simp [Lit.wf, IntKind.min, IntKind.max, IntKind.signed, IntKind.bits] at h
  omega
theorem awakes (k : Nat) (hk : 30 ≤ k) : hindcastlaw01_awake.f k = some true := at_rounds hindcastlaw01_awake.mono hk (by decide +kernel)
/-- A whole number within the ends. -/
def cl (x : Int) : Int := mx (-2147483648) (mn x 2147483647)
theorem cl_cases (x : Int) : (x < -2147483648 ∧ cl x = -2147483648) ∨ (x > 2147483647 ∧ cl x = 2147483647) ∨ (-2147483648 ≤ x ∧ x ≤ 2147483647 ∧ cl x = x) := by
  unfold cl mx mn
  by_cases h1 : 2147483647 < x
  · rw [if_pos h1, if_pos (by omega)]; omega
  · rw [if_neg h1]
    by_cases h2 : -2147483648 < x
    · rw [if_pos h2]; omega
    · rw [if_neg h2]; omega
theorem bounded (x : Int) : fixed_bounded_int64.f x = some (cl x) := rfl

theorem below_eq {a b : Int} (hb : 0 < b) (h0 : -4611686018427387904 ≤ a) (h1 : a ≤ 4611686018427387904) : fixed_below.f a b = some (a / b) := by
  unfold fixed_below.f
  rw [if_neg (by omega)]
  have hd := fl_bd a hb (m := 4611686018427387904) (by decide) h0 h1
  by_cases ha : 0 ≤ a
  · rw [tm_pos ha, td_pos ha, if_neg (by have := Int.emod_nonneg a (Int.ne_of_gt hb); omega), w64 (by omega) (by omega)]
  · have hn := fl_bd (-a) hb (m := 4611686018427387904) (by decide) (by omega) (by omega)
    have hm := Int.emod_nonneg (-a) (Int.ne_of_gt hb)
    rw [tm_neg (by omega), td_neg (by omega)]
    by_cases h : 0 < (-a) % b
    · have := fl_neg1 hb h
      rw [Int.neg_neg] at this
      rw [if_pos (by omega), w64 (x := -(-a / b)) (by omega) (by omega), w64 (by omega) (by omega), this]
    · have := fl_neg0 (m := -a) hb (by omega)
      rw [Int.neg_neg] at this
      rw [if_neg (by omega), w64 (x := -(-a / b)) (by omega) (by omega), this]

theorem div_pos {a b : Int} (ha0 : -2147483648 ≤ a) (ha1 : a ≤ 2147483647) (hb : 0 < b) (hb1 : b ≤ 2147483647) : fixed_Div.f a b = some (cl (a * 256 / b)) := by
  unfold fixed_Div.f
  rw [if_pos hb, w64 (x := a) (by omega) (by omega), w64 (x := a * 256) (by omega) (by omega), w64 (x := b) (by omega) (by omega), below_eq hb (by omega) (by omega)]
  rfl
theorem div_neg {a b : Int} (ha0 : -2147483648 ≤ a) (ha1 : a ≤ 2147483647) (hb : b < 0) (hb1 : -2147483648 ≤ b) : fixed_Div.f a b = some (cl (-(a * 256) / -b)) := by
  unfold fixed_Div.f
  rw [if_neg (by omega), if_pos hb, w64 (x := a) (by omega) (by omega), w64 (x := -a) (by omega) (by omega), w64 (x := -a * 256) (by omega) (by omega), w64 (x := b) (by omega) (by omega), w64 (x := -b) (by omega) (by omega), below_eq (by omega) (by omega) (by omega), Int.neg_mul]
  rfl
theorem div_zero (a : Int) : fixed_Div.f a 0 = some (if a > 0 then 2147483647 else if a < 0 then -2147483648 else 0) := by
  unfold fixed_Div.f
  rw [if_neg (by decide), if_neg (by decide)]
  by_cases h1 : a > 0
  · rw [if_pos h1, if_pos h1]
  · rw [if_neg h1, if_neg h1]
    by_cases h2 : a < 0
    · rw [if_pos h2, if_pos h2]
    · rw [if_neg h2, if_neg h2]

theorem near (k : Nat) (hk : 31 ≤ k) (a b q : Int) (ha0 : -2147483648 ≤ a) (ha1 : a ≤ 2147483647) (hb0 : -2147483648 ≤ b) (hb1 : b ≤ 2147483647) (hq0 : -2147483648 ≤ q) (hq1 : q ≤ 2147483647)
    (hp : 0 < b → q * b ≤ a * 256 ∧ a * 256 < (q + 1) * b) (hn : b < 0 → q * -b ≤ -(a * 256) ∧ -(a * 256) < (q + 1) * -b) (h0 : b ≠ 0) : hindcastlaw01_FixedNear.j0 k a b q false = some true := by
  obtain ⟨k, rfl⟩ : ∃ m, k = m + 1 := ⟨k - 1, by omega⟩
  simp only [hindcastlaw01_FixedNear.j0, Bool.false_eq_true, if_false]
  rw [w64 (x := a) (by omega) (by omega), w64 (x := b) (by omega) (by omega), w64 (x := -b) (by omega) (by omega), w64 (x := 256 * a) (by omega) (by omega), w64 (x := -(256 * a)) (by omega) (by omega), w64 (x := q + 1) (by omega) (by omega)]
  have m1 := mul_bd (a := q) (b := b) (m := 2147483648) (n := 2147483648) (by decide) (by omega) (by omega) (by omega) (by omega)
  have m2 := mul_bd (a := q + 1) (b := b) (m := 2147483648) (n := 2147483648) (by decide) (by omega) (by omega) (by omega) (by omega)
  have m3 := mul_bd (a := q) (b := -b) (m := 2147483648) (n := 2147483648) (by decide) (by omega) (by omega) (by omega) (by omega)
  have m4 := mul_bd (a := q + 1) (b := -b) (m := 2147483648) (n := 2147483648) (by decide) (by omega) (by omega) (by omega) (by omega)
  by_cases hb : b < 0
  · obtain ⟨n1, n2⟩ := hn hb
    rw [if_pos hb, w64 (x := q * -b) (by omega) (by omega), w64 (x := (q + 1) * -b) (by omega) (by omega), if_pos (by omega), if_pos (by omega), awakes k (by omega)]
    rfl
  · obtain ⟨n1, n2⟩ := hp (by omega)
    rw [if_neg hb, w64 (x := q * b) (by omega) (by omega), w64 (x := (q + 1) * b) (by omega) (by omega), if_pos (by omega), if_pos (by omega), awakes k (by omega)]
    rfl
theorem ends (k : Nat) (hk : 31 ≤ k) (a b q : Int) : hindcastlaw01_FixedNear.j0 k a b q true = some true := by
  obtain ⟨k, rfl⟩ : ∃ m, k = m + 1 := ⟨k - 1, by omega⟩
  simp only [hindcastlaw01_FixedNear.j0, if_true, awakes k (by omega), Option.bind_some]

end FixedNearParts
open Go.RowKit Go.Proofs.Ytiflfafniciebaa.PFixedNear Go.Proofs.YtiflfafniciebaaW.PrintWords Go.Proofs.YtiflfafniciebaaW.PrintLast Go.Proofs.Ytiflfafniciebaa.FixMath FixedNearParts

theorem FixedNear : hindcastlaw01_FixedNear.Pure := by
  intro a b ha hb
  have ha := i32 ha
  have hb := i32 hb
  refine ⟨40, ?_⟩
  unfold hindcastlaw01_FixedNear.f
  by_cases h0 : b = 0
  · subst h0
    rw [div_zero]
    simp only [Option.bind_some, if_true]
    exact ends 40 (by omega) _ _ _
  · obtain ⟨x, y, hx, hy, e⟩ : ∃ x y : Int, 0 < y ∧ fixed_Div.f a b = some (cl (x / y)) ∧ (0 < b → x = a * 256 ∧ y = b) ∧ (b < 0 → x = -(a * 256) ∧ y = -b) := by
      by_cases h : 0 < b
      · exact ⟨_, _, h, div_pos ha.1 ha.2 h hb.2, fun _ => ⟨rfl, rfl⟩, fun h' => by omega⟩
      · exact ⟨_, _, by omega, div_neg ha.1 ha.2 (by omega) hb.1, fun h' => absurd h' h, fun _ => ⟨rfl, rfl⟩⟩
    rw [hy]
    have hc := cl_cases (x / y)
    have hs := fl_spec x hx
    simp only [Option.bind_some]
    rw [if_neg h0, w64 (x := cl (x / y)) (by omega) (by omega)]
    by_cases h1 : cl (x / y) = -2147483648
    · rw [if_pos h1]; exact ends 40 (by omega) _ _ _
    · rw [if_neg h1]
      by_cases h2 : cl (x / y) = 2147483647
      · rw [show (cl (x / y) == 2147483647) = true by rw [h2]; rfl]; exact ends 40 (by omega) _ _ _
      · rw [show (cl (x / y) == 2147483647) = false from beq_eq_false_iff_ne.2 h2]
        have hq : cl (x / y) = x / y := by omega
        rw [hq]
        rw [hq] at hc
        refine near 40 (by omega) a b (x / y) ha.1 ha.2 hb.1 hb.2 (by omega) (by omega) ?_ ?_ h0
        · intro h; obtain ⟨e1, e2⟩ := e.1 h; rw [e1, e2] at hs; rw [e1, e2]; exact hs
        · intro h; obtain ⟨e1, e2⟩ := e.2 h; rw [e1, e2] at hs; rw [e1, e2]; exact hs

end Go.Proofs.Ytiflfafniciebaa.Pure
