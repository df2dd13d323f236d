/- A frame in which bits of its payload were turned, within 32 that stand together, or bits of its sum: plain words. No conditions. -/
import Derived.Test.YtdgbililgkhjfaaDoorFrameA
namespace Go.Proofs.YtdgbililgkhjfaaDoor.Frame
open Go.RowKit Go.Proofs.YtdgbililgkhjfaaDoor.Crc Go.Proofs.YtdgbililgkhjfaaDoor.Codec
set_option linter.unusedVariables false
theorem V_app (l m : List UInt8) : V (l ++ m) = V l + 2 ^ (8 * l.length) * V m := by rw [V_append, xor_high _ _ _ (V_lt l)]
theorem V_take (l : List UInt8) (k : Nat) (h : k ≤ l.length) : V (l.take k) = V l % 2 ^ (8 * k) := by
  have e := V_app (l.take k) (l.drop k)
  have hl := V_lt (l.take k)
  rw [List.length_take, Nat.min_eq_left h] at e hl
  rw [List.take_append_drop] at e
  rw [e, Nat.add_mul_mod_self_left, Nat.mod_eq_of_lt hl]
theorem V_drop (l : List UInt8) (k : Nat) (h : k ≤ l.length) : V (l.drop k) = V l / 2 ^ (8 * k) := by
  have e := V_app (l.take k) (l.drop k)
  have hl := V_lt (l.take k)
  rw [List.length_take, Nat.min_eq_left h] at e hl
  rw [List.take_append_drop] at e
  rw [e, Nat.add_mul_div_left _ _ (Nat.pow_pos (by decide)), Nat.div_eq_of_lt hl, Nat.zero_add]
theorem xor_div (a b k : Nat) : (a ^^^ b) / 2 ^ k = a / 2 ^ k ^^^ b / 2 ^ k := by
  rw [← Nat.shiftRight_eq_div_pow, ← Nat.shiftRight_eq_div_pow, ← Nat.shiftRight_eq_div_pow, Nat.shiftRight_xor_distrib]
theorem xor_ne {a b : Nat} (h : b ≠ 0) : a ^^^ b ≠ a := fun e => h (by
  have : a ^^^ (a ^^^ b) = a ^^^ a := by rw [e]
  rwa [← Nat.xor_assoc, Nat.xor_self, Nat.zero_xor] at this)
/-- Turned bits are told by the sum. -/
theorem turned_E (l t m : List UInt8) (h : l.length ≤ 4096) (hlen : t.length = 6 + l.length) (from_ p : Nat) (hp : p ≠ 0) (hp32 : p < 2 ^ 32)
    (hV : V t = V (fput l) ^^^ 2 ^ (16 + from_) * p) (hcase : 2 ^ from_ * p < 2 ^ 32 ∨ (32 ≤ from_ ∧ from_ - 32 ≤ 8 * l.length)) : fnE (t ++ m) = 9 := by
  have hFl := fput_length h
  obtain ⟨F, hF⟩ : ∃ F, F = fput l := ⟨_, rfl⟩
  rw [← hF] at hV hFl
  have eF : F = leB l.length 2 ++ (leB (crc 0 (leB l.length 2 ++ l)) 4 ++ l) := by rw [hF]; simp [fput, h, fhead]
  have hl2 : (leB l.length 2).length = 2 := leB_length 2 _
  have hl4 : (leB (crc 0 (leB l.length 2 ++ l)) 4).length = 4 := leB_length 4 _
  have F2 : F.take 2 = leB l.length 2 := by rw [eF]; exact List.take_left' hl2
  have Fd2 : F.drop 2 = leB (crc 0 (leB l.length 2 ++ l)) 4 ++ l := by rw [eF]; exact List.drop_left' hl2
  have F4 : (F.drop 2).take 4 = leB (crc 0 (leB l.length 2 ++ l)) 4 := by rw [Fd2]; exact List.take_left' hl4
  have Fd6 : F.drop 6 = l := by rw [show 6 = 2 + 4 from rfl, ← List.drop_drop, Fd2]; exact List.drop_left' hl4
  have v2 : V (leB l.length 2) = l.length := by rw [leB_V]; exact Nat.mod_eq_of_lt (by omega)
  have v4 : V (leB (crc 0 (leB l.length 2 ++ l)) 4) = crc 0 (leB l.length 2 ++ l) := by
    rw [leB_V]; exact Nat.mod_eq_of_lt (crc_lt (by decide) _)
  obtain ⟨c, hc⟩ : ∃ c, c = crc 0 (leB l.length 2 ++ l) := ⟨_, rfl⟩
  rw [← hc] at v4 F4
  have ep : 2 ^ (16 + from_) * p = 2 ^ 16 * (2 ^ from_ * p) := by rw [Nat.pow_add, Nat.mul_assoc]
  have t2 : t.take 2 = leB l.length 2 := by
    rw [← F2]
    refine V_inj (by simp; omega) ?_
    rw [V_take _ 2 (by omega), V_take _ 2 (by omega), hV, Nat.xor_mod_two_pow, ep, Nat.mul_mod_right, Nat.xor_zero]
  have td2 : V (t.drop 2) = V (F.drop 2) ^^^ 2 ^ from_ * p := by
    rw [V_drop _ 2 (by omega), V_drop _ 2 (by omega), hV, xor_div, ep, Nat.mul_div_right _ (Nat.pow_pos (by decide))]
  have a2 : (t ++ m).take 2 = leB l.length 2 := by rw [List.take_append_of_le_length (by omega), t2]
  have a4 : ((t ++ m).drop 2).take 4 = (t.drop 2).take 4 := by rw [List.drop_append_of_le_length (by omega), List.take_append_of_le_length (by simp; omega)]
  have a6 : ((t ++ m).drop 6).take l.length = t.drop 6 := by
    rw [List.drop_append_of_le_length (by omega), List.take_append_of_le_length (by simp; omega)]
    exact List.take_of_length_le (by simp; omega)
  have vt4 : V ((t.drop 2).take 4) = (V (F.drop 2) ^^^ 2 ^ from_ * p) % 2 ^ 32 := by rw [V_take _ 4 (by simp; omega), td2]
  have vF4 : V (F.drop 2) % 2 ^ 32 = c := by rw [← V_take _ 4 (by simp; omega), F4, v4]
  have vt6 : V (t.drop 6) = V l ^^^ (2 ^ from_ * p) / 2 ^ 32 := by
    have : t.drop 6 = (t.drop 2).drop 4 := by rw [List.drop_drop]
    rw [this, V_drop _ 4 (by simp; omega), td2, xor_div, ← V_drop _ 4 (by simp; omega), List.drop_drop, Fd6]
  have hne : crc 0 (leB l.length 2 ++ t.drop 6) ≠ V ((t.drop 2).take 4) := by
    rw [vt4, Nat.xor_mod_two_pow, vF4]
    rcases hcase with hA | ⟨hB, hB2⟩
    · have e6 : t.drop 6 = l := V_inj (by simp; omega) (by rw [vt6, Nat.div_eq_of_lt hA, Nat.xor_zero])
      rw [e6, ← hc, Nat.mod_eq_of_lt hA]
      refine fun e => xor_ne (a := c) (b := 2 ^ from_ * p) ?_ e.symm
      exact Nat.mul_ne_zero (Nat.pos_iff_ne_zero.1 (Nat.pow_pos (by decide))) hp
    · obtain ⟨f, rfl⟩ : ∃ f, from_ = 32 + f := ⟨from_ - 32, by omega⟩
      have e32 : 2 ^ (32 + f) * p = 2 ^ 32 * (2 ^ f * p) := by rw [Nat.pow_add, Nat.mul_assoc]
      rw [e32, Nat.mul_div_right _ (Nat.pow_pos (by decide))] at vt6
      rw [e32, Nat.mul_mod_right, Nat.xor_zero, crc_append, hc, crc_append]
      intro e
      exact hp ((crc_turned l (t.drop 6) (by simp; omega) f p hp32 (by omega) vt6 _).1 e)
  unfold fnE
  rw [if_neg (by simp; omega), a2, v2, if_neg (by omega), if_neg (by simp; omega), a6, a4, if_neg hne]
end Go.Proofs.YtdgbililgkhjfaaDoor.Frame
