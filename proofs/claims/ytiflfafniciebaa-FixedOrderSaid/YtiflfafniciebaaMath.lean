/- Whole numbers: quotients to below, and bounds of products. No conditions. -/
namespace Go.Proofs.Ytiflfafniciebaa.FixMath
theorem fl_spec (a : Int) {b : Int} (hb : 0 < b) : a / b * b ≤ a ∧ a < (a / b + 1) * b := by
  have h1 := Int.mul_ediv_add_emod a b
  have h2 := Int.emod_nonneg a (Int.ne_of_gt hb)
  have h3 := Int.emod_lt_of_pos a hb
  rw [Int.mul_comm b] at h1
  rw [Int.add_mul]
  omega
theorem fl_unique {a b q : Int} (hb : 0 < b) (h1 : q * b ≤ a) (h2 : a < (q + 1) * b) : a / b = q := by
  have l1 : q ≤ a / b := (Int.le_ediv_iff_mul_le hb).2 h1
  have l2 : a / b < q + 1 := (Int.ediv_lt_iff_lt_mul hb).2 h2
  omega
theorem fl_bd (a : Int) {b : Int} (hb : 0 < b) {m : Int} (h0 : 0 ≤ m) (h1 : -m ≤ a) (h2 : a ≤ m) : -m ≤ a / b ∧ a / b ≤ m := by
  constructor
  · refine (Int.le_ediv_iff_mul_le hb).2 ?_
    have : m * 1 ≤ m * b := Int.mul_le_mul_of_nonneg_left (by omega) h0
    rw [Int.neg_mul]; omega
  · have : a / b < m + 1 := by
      refine (Int.ediv_lt_iff_lt_mul hb).2 ?_
      have : (m + 1) * 1 ≤ (m + 1) * b := Int.mul_le_mul_of_nonneg_left (by omega) (by omega)
      omega
    omega
theorem td_pos {a b : Int} (ha : 0 ≤ a) : Int.tdiv a b = a / b := Int.tdiv_eq_ediv_of_nonneg ha
theorem tm_pos {a b : Int} (ha : 0 ≤ a) : Int.tmod a b = a % b := Int.tmod_eq_emod_of_nonneg ha
theorem td_neg {a b : Int} (ha : a < 0) : Int.tdiv a b = -((-a) / b) := by
  have h := Int.neg_tdiv a b
  rw [td_pos (show 0 ≤ -a by omega)] at h
  omega
theorem tm_neg {a b : Int} (ha : a < 0) : Int.tmod a b = -((-a) % b) := by
  have h := Int.neg_tmod a b
  rw [tm_pos (show 0 ≤ -a by omega)] at h
  omega
theorem fl_neg1 {m b : Int} (hb : 0 < b) (h : 0 < m % b) : (-m) / b = -(m / b) - 1 := by
  have h1 := Int.mul_ediv_add_emod m b
  have h3 := Int.emod_lt_of_pos m hb
  rw [Int.mul_comm b] at h1
  refine fl_unique hb ?_ ?_
  · rw [Int.sub_mul, Int.neg_mul]; omega
  · rw [show -(m / b) - 1 + 1 = -(m / b) by omega, Int.neg_mul]; omega
theorem fl_neg0 {m b : Int} (hb : 0 < b) (h : m % b = 0) : (-m) / b = -(m / b) := by
  have h1 := Int.mul_ediv_add_emod m b
  rw [Int.mul_comm b] at h1
  refine fl_unique hb ?_ ?_
  · rw [Int.neg_mul]; omega
  · rw [Int.add_mul, Int.neg_mul]; omega
theorem fl_ceil {m b : Int} (hb : 0 < b) : -((m + b - 1) / b) = (-m) / b := by
  symm
  have h := fl_spec (m + b - 1) hb
  generalize (m + b - 1) / b = q at h
  obtain ⟨h1, h2⟩ := h
  rw [Int.add_mul] at h2
  refine fl_unique hb ?_ ?_
  · rw [Int.neg_mul]; omega
  · rw [Int.add_mul, Int.neg_mul]; omega
/-- A product of two numbers of 32 bits. -/
theorem mul_bd {a b m n : Int} (hm : 0 ≤ m) (ha1 : -m ≤ a) (ha2 : a ≤ m) (hb1 : -n ≤ b) (hb2 : b ≤ n) : -(m * n) ≤ a * b ∧ a * b ≤ m * n := by
  have hn : 0 ≤ n := by omega
  have e1 : (a * b).natAbs = a.natAbs * b.natAbs := Int.natAbs_mul a b
  have e2 : a.natAbs ≤ m.toNat := by omega
  have e3 : b.natAbs ≤ n.toNat := by omega
  have e4 := Nat.mul_le_mul e2 e3
  have e5 : ((m.toNat * n.toNat : Nat) : Int) = m * n := by rw [Int.natCast_mul, Int.toNat_of_nonneg hm, Int.toNat_of_nonneg hn]
  omega
end Go.Proofs.Ytiflfafniciebaa.FixMath
