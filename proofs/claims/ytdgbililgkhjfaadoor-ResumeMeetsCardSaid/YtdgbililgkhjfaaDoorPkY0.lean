/- What is taken has that text: plain. No conditions. -/
import Derived.Test.YtdgbililgkhjfaaDoorPkV0
import Derived.Test.YtdgbililgkhjfaaDoorPkU
namespace Go.Proofs.YtdgbililgkhjfaaDoor.Pk
open Go.RowKit Go.Proofs.YtdgbililgkhjfaaDoor.Crc Go.Proofs.YtdgbililgkhjfaaDoor.Codec Go.Proofs.YtdgbililgkhjfaaDoor.CrcWalk Go.Proofs.YtdgbililgkhjfaaDoor.Frame
set_option linter.unusedVariables false
theorem fput_fnP {l : List UInt8} (h : fnE l = 0) (hu : fnU l = l.length) : fput (fnP l) = l := by
  have hle := (fn_ok h).2.2
  unfold fnE at h
  unfold fnU at hu
  unfold fnP at hle ⊢
  by_cases h1 : l.length < 6
  · rw [if_pos h1] at h; exact absurd h (by decide)
  rw [if_neg h1] at h hu hle ⊢
  by_cases h2 : 4096 < V (l.take 2)
  · rw [if_pos h2] at h; exact absurd h (by decide)
  rw [if_neg h2] at h hu hle ⊢
  by_cases h3 : l.length - 6 < V (l.take 2)
  · rw [if_pos h3] at h; exact absurd h (by decide)
  rw [if_neg h3] at h hu hle ⊢
  by_cases h4 : crc 0 (l.take 2 ++ (l.drop 6).take (V (l.take 2))) = V ((l.drop 2).take 4)
  case neg => rw [if_neg h4] at h; exact absurd h (by decide)
  case pos =>
  rw [if_pos h4] at hu hle ⊢
  have hd : (l.drop 6).take (V (l.take 2)) = l.drop 6 := List.take_of_length_le (by rw [List.length_drop]; omega)
  rw [hd] at h4 hle ⊢
  have hl : (l.drop 6).length = V (l.take 2) := by rw [List.length_drop]; omega
  unfold fput fhead
  rw [if_pos hle, hl]
  have e2 : leB (V (l.take 2)) 2 = l.take 2 := by
    have := V_leB (l.take 2)
    rwa [show (l.take 2).length = 2 by rw [List.length_take]; omega] at this
  have e4 : leB (V ((l.drop 2).take 4)) 4 = (l.drop 2).take 4 := by
    have := V_leB ((l.drop 2).take 4)
    rwa [show ((l.drop 2).take 4).length = 4 by rw [List.length_take, List.length_drop]; omega] at this
  rw [e2, h4, e4]
  have e6 : l.drop 6 = (l.drop 2).drop 4 := by rw [List.drop_drop]
  rw [e6, List.append_assoc, List.take_append_drop, List.take_append_drop]
theorem par_kind {c : Nat} {m : List UInt8} {k : K} (h : par c m = some k) : k.kind = c := by
  unfold par at h
  repeat' (first | (cases h; rfl) | (cases h; done) | (split at h))
theorem pT_err {l : List UInt8} (h : (pT l).2 ≠ 0) : (pT l).1 = K.zero := by
  unfold pT at h ⊢
  split
  · rfl
  · next h1 =>
    rw [if_neg h1] at h
    split
    · next h2 =>
      rw [if_pos h2] at h
      unfold pTin at h ⊢
      split
      · next k hk =>
        rw [hk] at h
        dsimp only at h
        split
        · next hm => rw [if_pos hm] at h; exact absurd rfl h
        · rfl
      · rfl
    · rfl
theorem pT_ok {l : List UInt8} (h : (pT l).2 = 0) : fnE l = 0 ∧ fnU l = l.length ∧ parP (fnP l) = some (pT l).1 ∧ (pT l).1.may := by
  unfold pT at h ⊢
  by_cases h1 : fnE l ≠ 0
  · rw [if_pos h1] at h; exact absurd h h1
  rw [if_neg h1] at h ⊢
  by_cases h2 : fnU l = l.length
  · rw [if_pos h2] at h ⊢
    unfold pTin at h ⊢
    cases hp : parP (fnP l) with
    | none => rw [hp] at h; exact absurd h (by decide)
    | some k =>
      rw [hp] at h
      dsimp only at h ⊢
      by_cases hm : k.may
      · rw [if_pos hm]; exact ⟨by omega, h2, rfl, hm⟩
      · rw [if_neg hm] at h; exact absurd h (by decide)
  · rw [if_neg h2] at h; exact absurd h (by decide)
/-- What is taken has that text. -/
theorem pT_back {l : List UInt8} (h : (pT l).2 = 0) : pPut (pT l).1 = (l, 0) ∧ (pT l).1.wf := by
  obtain ⟨h1, h2, h3, h4⟩ := pT_ok h
  generalize (pT l).1 = k at *
  have hf := fput_fnP h1 h2
  cases hm : fnP l with
  | nil => rw [hm] at h3; cases h3
  | cons c m =>
    rw [hm] at h3 hf
    have h3' : par c.toNat m = some k := h3
    obtain ⟨l1, l2⟩ := h4.lens
    have hw := par_wf h3' c.toNat_lt
    have hkc : 1 ≤ c.toNat ∧ c.toNat ≤ 5 := by
      have a := h4.1
      have b := h4.2.1
      have hk := par_kind h3'
      rw [hk] at a b
      omega
    obtain ⟨e1, e2, e3⟩ := par_back h3' hkc l1 l2
    have hp : k.pay = c :: m := by
      unfold K.pay
      rw [e1, e2]
      simp
    refine ⟨?_, hw⟩
    unfold pPut
    rw [if_pos ⟨h4, e3⟩, hp, hf]
end Go.Proofs.YtdgbililgkhjfaaDoor.Pk
