/- P1.4: the root times itself is not above 256 times the number, and with no greater number. No conditions. -/
import Derived.Test.YtiflfafniciebaaPFixedRootx1
import Derived.Test.YtiflfafniciebaaMath
namespace Go.Proofs.Ytiflfafniciebaa.Pure
namespace FixedRootParts
open Go.RowKit Go.Proofs.Ytiflfafniciebaa.PFixedRoot Go.Proofs.YtiflfafniciebaaW.PrintWords Go.Proofs.YtiflfafniciebaaW.PrintLast Go.Proofs.Ytiflfafniciebaa.FixMath

theorem w64 {x : Int} (h0 : -9223372036854775808 ≤ x) (h1 : x ≤ 9223372036854775807) : wrap64 x = x := by unfold wrap64; omega
theorem w32 {x : Int} (h0 : -2147483648 ≤ x) (h1 : x ≤ 2147483647) : wrap32 x = x := by unfold wrap32; omega
theorem i32 {a : Int} (h : (Lit.int .i32 a).wf = true) : -2147483648 ≤ a ∧ a ≤ 2147483647 := by
  simp [Lit.wf, IntKind.min, IntKind.max, IntKind.signed, IntKind.bits] at h
  omega
theorem awakes (k : Nat) (hk : 30 ≤ k) : hindcastlaw01_awake.f k = some true := at_rounds hindcastlaw01_awake.mono hk (by decide +kernel)
/-- A whole number within the ends. -/
def cl (x : Int) : Int := mx (-2147483648) (mn x 2147483647)
theorem cl_cases (x : Int) : (x < -2147483648 ∧ cl x = -2147483648) ∨ (x > 2147483647 ∧ cl x = 2147483647) ∨ (-2147483648 ≤ x ∧ x ≤ 2147483647 ∧ cl x = x) := by
  unfold cl mx mn
  by_cases h1 : 2147483647 < x
  · rw [if_pos h1, if_pos (by omega)]; omega
  · rw [if_neg h1]
    by_cases h2 : -2147483648 < x
    · rw [if_pos h2]; omega
    · rw [if_neg h2]; omega
theorem bounded (x : Int) : fixed_bounded_int64.f x = some (cl x) := rfl

theorem shl1 {n : Int} (h0 : 0 ≤ n) (h1 : n ≤ 20) : shl .i64 1 n = ((2 ^ n.toNat : Nat) : Int) := by
  obtain ⟨m, rfl⟩ : ∃ m : Nat, n = m := ⟨n.toNat, by omega⟩
  have hm : m ≤ 20 := by omega
  unfold shl
  rw [Int.toNat_natCast, Nat.min_eq_left (by show m ≤ 64; omega)]
  have h2 : 2 ^ m ≤ 2 ^ 20 := Nat.pow_le_pow_right (by decide) hm
  have e : ((2 : Int) ^ m) = ((2 ^ m : Nat) : Int) := by rw [Int.natCast_pow]; rfl
  rw [e]
  generalize 2 ^ m = p at *
  rw [IntKind.wrap_i64]
  omega
theorem sq_le {x y : Int} (h0 : 0 ≤ x) (h : x ≤ y) : x * x ≤ y * y := Int.mul_le_mul h h h0 (by omega)
/-- The root by its bits: from step i on. -/
theorem root_l (s : Int) (_hs0 : 0 ≤ s) (_hs1 : s < 1099511627776) : ∀ (d k : Nat) (r i : Int), 0 ≤ i → i + d = 21 → d < k → 0 ≤ r → r + ((2 ^ d : Nat) : Int) ≤ 2097152 → r * r ≤ s → s < (r + ((2 ^ d : Nat) : Int)) * (r + ((2 ^ d : Nat) : Int)) →
    ∃ q, fixed_Root.l0 k s r i = some q ∧ 0 ≤ q ∧ q ≤ 2097151 ∧ q * q ≤ s ∧ s < (q + 1) * (q + 1) := by
  intro d
  induction d with
  | zero =>
    intro k r i hi hd hk hr hr1 h1 h2
    obtain ⟨k, rfl⟩ : ∃ m, k = m + 1 := ⟨k - 1, by omega⟩
    simp only [Nat.pow_zero] at hr1 h2
    refine ⟨r, ?_, hr, by omega, h1, h2⟩
    simp only [fixed_Root.l0]
    rw [if_neg (by omega), w32 (by omega) (by omega)]
  | succ d ih =>
    intro k r i hi hd hk hr hr1 h1 h2
    obtain ⟨k, rfl⟩ : ∃ m, k = m + 1 := ⟨k - 1, by omega⟩
    have hp : 2 ^ (d + 1) = 2 ^ d + 2 ^ d := by rw [Nat.pow_succ]; omega
    rw [hp] at hr1 h2
    have e20 : wrap64 (20 - i) = (d : Int) := by rw [w64 (by omega) (by omega)]; omega
    have hp1 : 0 < 2 ^ d := Nat.pow_pos (by decide)
    have esh : shl .i64 1 (d : Int) = ((2 ^ d : Nat) : Int) := by
      have := shl1 (n := d) (by omega) (by omega)
      rw [this, Int.toNat_natCast]
    simp only [fixed_Root.l0]
    rw [if_pos (by omega), e20, if_pos (by omega), esh]
    obtain ⟨p, ep⟩ : ∃ p : Int, p = ((2 ^ d : Nat) : Int) := ⟨_, rfl⟩
    have hp0 : 0 < p := by rw [ep]; omega
    have hpp : ((2 ^ d + 2 ^ d : Nat) : Int) = p + p := by rw [ep]; omega
    rw [hpp] at hr1 h2
    rw [← ep] at ih ⊢
    have hsq : (r + p) * (r + p) ≤ 2097152 * 2097152 := sq_le (by omega) (by omega)
    have hsq0 : 0 ≤ (r + p) * (r + p) := Int.mul_nonneg (by omega) (by omega)
    rw [w64 (x := r + p) (by omega) (by omega), w64 (x := (r + p) * (r + p)) (by omega) (by omega), w64 (x := i + 1) (by omega) (by omega)]
    by_cases hc : (r + p) * (r + p) ≤ s
    · rw [if_pos hc]
      exact ih k (r + p) (i + 1) (by omega) (by omega) (by omega) (by omega) (by omega) hc (by rw [Int.add_assoc]; exact h2)
    · rw [if_neg hc]
      exact ih k r (i + 1) (by omega) (by omega) (by omega) (by omega) (by omega) h1 (by omega)
theorem root_spec {a : Int} (h0 : 0 ≤ a) (h1 : a ≤ 2147483647) (k : Nat) (hk : 21 < k) : ∃ q, fixed_Root.f k a = some q ∧ 0 ≤ q ∧ q ≤ 2097151 ∧ q * q ≤ a * 256 ∧ a * 256 < (q + 1) * (q + 1) := by
  unfold fixed_Root.f
  rw [if_neg (by omega), w64 (x := a) (by omega) (by omega), w64 (x := a * 256) (by omega) (by omega)]
  exact root_l (a * 256) (by omega) (by omega) 21 k 0 0 (by omega) (by omega) (by omega) (by omega) (by decide) (by omega) (by
    have : ((0 : Int) + ((2 ^ 21 : Nat) : Int)) * (0 + ((2 ^ 21 : Nat) : Int)) = 4398046511104 := by decide
    omega)

end FixedRootParts
open Go.RowKit Go.Proofs.Ytiflfafniciebaa.PFixedRoot Go.Proofs.YtiflfafniciebaaW.PrintWords Go.Proofs.YtiflfafniciebaaW.PrintLast Go.Proofs.Ytiflfafniciebaa.FixMath FixedRootParts

theorem FixedRoot : hindcastlaw01_FixedRoot.Pure := by
  intro a ha
  have ha := i32 ha
  refine ⟨30, ?_⟩
  unfold hindcastlaw01_FixedRoot.f
  by_cases h0 : a < 0
  · unfold fixed_Root.f
    rw [if_pos h0]
    simp only [Option.bind_some]
    rw [if_pos h0, w64 (by decide) (by decide), if_pos rfl]
    simp only [Option.bind_some, awakes 30 (Nat.le_refl _)]
  · obtain ⟨q, hq, q0, q3, q1, q2⟩ := root_spec (a := a) (by omega) ha.2 30 (by omega)
    have s1 : (q + 1) * (q + 1) ≤ 2097152 * 2097152 := sq_le (by omega) (by omega)
    have s2 : q * q ≤ 2097152 * 2097152 := sq_le (by omega) (by omega)
    have s3 : 0 ≤ q * q := Int.mul_nonneg q0 q0
    rw [hq]
    simp only [Option.bind_some]
    rw [if_neg h0, w64 (x := q) (by omega) (by omega), w64 (x := a) (by omega) (by omega), w64 (x := q * q) (by omega) (by omega), w64 (x := 256 * a) (by omega) (by omega), w64 (x := q + 1) (by omega) (by omega), w64 (x := (q + 1) * (q + 1)) (by omega) (by omega)]
    rw [if_pos q0, if_pos (by omega), if_pos (by omega), awakes 30 (Nat.le_refl _)]
    rfl

end Go.Proofs.Ytiflfafniciebaa.Pure
