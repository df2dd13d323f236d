/- The document's May and the program's: plain. No conditions. -/
import Derived.Test.YtdgbililgkhjfaaDoorPkD2
namespace Go.Proofs.YtdgbililgkhjfaaDoor.Pk
open Go.RowKit Go.Proofs.YtdgbililgkhjfaaDoor.Crc Go.Proofs.YtdgbililgkhjfaaDoor.Codec Go.Proofs.YtdgbililgkhjfaaDoor.Frame
set_option linter.unusedVariables false
theorem only12 {k : K} (h : k.kind = 1 ∨ k.kind = 2) : k.only = k ↔ k.first = 0 ∧ k.ins = [] ∧ k.prs = [] ∧ k.frame = 0 ∧ k.sum = 0 := by
  have e : k.only = ⟨k.kind, k.player, k.epoch, k.dest, k.count, k.own, 0, [], [], 0, 0⟩ := by unfold K.only; rw [if_pos h]
  rw [e]
  constructor
  · intro h; exact ⟨(congrArg K.first h).symm, (congrArg K.ins h).symm, (congrArg K.prs h).symm, (congrArg K.frame h).symm, (congrArg K.sum h).symm⟩
  · rintro ⟨h1, h2, h3, h4, h5⟩
    exact K.ext' rfl rfl rfl rfl rfl rfl h1.symm h2.symm h3.symm h4.symm h5.symm
theorem only3 {k : K} (h : k.kind = 3) : k.only = k ↔ k.own = 0 ∧ k.prs = [] ∧ k.frame = 0 ∧ k.sum = 0 := by
  have e : k.only = ⟨k.kind, k.player, k.epoch, k.dest, k.count, 0, k.first, k.ins, [], 0, 0⟩ := by unfold K.only; rw [if_neg (by omega), if_pos h]
  rw [e]
  constructor
  · intro h; exact ⟨(congrArg K.own h).symm, (congrArg K.prs h).symm, (congrArg K.frame h).symm, (congrArg K.sum h).symm⟩
  · rintro ⟨h1, h2, h3, h4⟩
    exact K.ext' rfl rfl rfl rfl rfl h1.symm rfl rfl h2.symm h3.symm h4.symm
theorem only4 {k : K} (h : k.kind = 4) : k.only = k ↔ k.own = 0 ∧ k.ins = [] ∧ k.frame = 0 ∧ k.sum = 0 := by
  have e : k.only = ⟨k.kind, k.player, k.epoch, k.dest, k.count, 0, k.first, [], k.prs, 0, 0⟩ := by unfold K.only; rw [if_neg (by omega), if_neg (by omega), if_pos h]
  rw [e]
  constructor
  · intro h; exact ⟨(congrArg K.own h).symm, (congrArg K.ins h).symm, (congrArg K.frame h).symm, (congrArg K.sum h).symm⟩
  · rintro ⟨h1, h2, h3, h4⟩
    exact K.ext' rfl rfl rfl rfl rfl h1.symm rfl h2.symm rfl h3.symm h4.symm
theorem only5 {k : K} (h : k.kind = 5) : k.only = k ↔ k.own = 0 ∧ k.first = 0 ∧ k.ins = [] ∧ k.prs = [] := by
  have e : k.only = ⟨k.kind, k.player, k.epoch, k.dest, k.count, 0, 0, [], [], k.frame, k.sum⟩ := by unfold K.only; rw [if_neg (by omega), if_neg (by omega), if_neg (by omega), if_pos h]
  rw [e]
  constructor
  · intro h; exact ⟨(congrArg K.own h).symm, (congrArg K.first h).symm, (congrArg K.ins h).symm, (congrArg K.prs h).symm⟩
  · rintro ⟨h1, h2, h3, h4⟩
    exact K.ext' rfl rfl rfl rfl rfl h1.symm h2.symm h3.symm h4.symm rfl rfl
theorem nil_iff {α : Type} (l : List α) : l = [] ↔ l.length = 0 := List.length_eq_zero_iff.symm
theorem docMay_iff (k : K) : docMay k = true ↔ k.may ∧ k.only = k := by
  have hL : ((!(k.ins.any bad1) && !(k.prs.any bad2)) = true) ↔ (∀ i ∈ k.ins, i.toNat < 64) ∧ (∀ p ∈ k.prs, p.1.toNat < 64 ∧ p.2.toNat < 64) := by
    rw [Bool.and_eq_true, Bool.not_eq_true', Bool.not_eq_true', bad1_iff, bad2_iff]
  have hF : zeroF k.first k.ins.length k.prs.length = true ↔ k.first = 0 ∧ k.ins.length = 0 ∧ k.prs.length = 0 := by unfold zeroF; rw [decide_eq_true_iff]
  have hS : zeroS k.frame k.sum = true ↔ k.frame = 0 ∧ k.sum = 0 := by unfold zeroS; rw [decide_eq_true_iff]
  unfold docMay
  rw [Bool.and_eq_true, Bool.and_eq_true, decide_eq_true_iff, decide_eq_true_iff, hL]
  unfold headB kindB K.may
  rw [hF, hS]
  constructor
  · rintro ⟨⟨a1, a2, a3, a4⟩, ⟨b1, b2⟩, hk⟩
    rcases hk with ⟨c, c1, c2, c3⟩ | ⟨c, c0, c1, c2, c3⟩ | ⟨c, c0, c1, c2, c3, c4⟩ | ⟨c, c0, c1, c2, c3, c4, c5⟩ | ⟨c, c0, c1, c2⟩
    · refine ⟨⟨by omega, by omega, a1, a2, .inr c, fun _ => c1, fun h => by omega, by omega, by omega, b1, b2⟩, (only12 (.inl c)).2 ⟨c2.1, (nil_iff _).2 c2.2.1, (nil_iff _).2 c2.2.2, c3.1, c3.2⟩⟩
    · refine ⟨⟨by omega, by omega, a1, a2, .inl (by omega), fun _ => c1, fun h => by omega, by omega, by omega, b1, b2⟩, (only12 (.inr c)).2 ⟨c2.1, (nil_iff _).2 c2.2.1, (nil_iff _).2 c2.2.2, c3.1, c3.2⟩⟩
    · refine ⟨⟨by omega, by omega, a1, a2, .inl (by omega), fun h => by omega, fun h => by omega, by omega, by omega, b1, b2⟩, (only3 c).2 ⟨c1, (nil_iff _).2 c2, c4.1, c4.2⟩⟩
    · refine ⟨⟨by omega, by omega, a1, a2, .inl (by omega), fun h => by omega, fun h => by omega, by omega, by omega, b1, b2⟩, (only4 c).2 ⟨c1, (nil_iff _).2 c2, c5.1, c5.2⟩⟩
    · refine ⟨⟨by omega, by omega, a1, a2, .inl (by omega), fun h => by omega, fun h => by omega, by omega, by omega, b1, b2⟩, (only5 c).2 ⟨c1, c2.1, (nil_iff _).2 c2.2.1, (nil_iff _).2 c2.2.2⟩⟩
  · rintro ⟨⟨m1, m2, m3, m4, m5, m6, m7, m8, m9, m10, m11⟩, ho⟩
    refine ⟨⟨m3, m4, by omega, by omega⟩, ⟨m10, m11⟩, ?_⟩
    have hc : k.kind = 1 ∨ k.kind = 2 ∨ k.kind = 3 ∨ k.kind = 4 ∨ k.kind = 5 := by omega
    rcases hc with c | c | c | c | c
    · obtain ⟨o1, o2, o3, o4, o5⟩ := (only12 (.inl c)).1 ho
      exact .inl ⟨c, m6 (by omega), ⟨o1, (nil_iff _).1 o2, (nil_iff _).1 o3⟩, o4, o5⟩
    · obtain ⟨o1, o2, o3, o4, o5⟩ := (only12 (.inr c)).1 ho
      exact .inr (.inl ⟨c, by omega, m6 (by omega), ⟨o1, (nil_iff _).1 o2, (nil_iff _).1 o3⟩, o4, o5⟩)
    · obtain ⟨o1, o2, o3, o4⟩ := (only3 c).1 ho
      have e2 := (nil_iff _).1 o2
      exact .inr (.inr (.inl ⟨c, by omega, o1, e2, by omega, o3, o4⟩))
    · obtain ⟨o1, o2, o3, o4⟩ := (only4 c).1 ho
      have e2 := (nil_iff _).1 o2
      have m7' := m7 c
      exact .inr (.inr (.inr (.inl ⟨c, by omega, o1, e2, by omega, by omega, o3, o4⟩)))
    · obtain ⟨o1, o2, o3, o4⟩ := (only5 c).1 ho
      exact .inr (.inr (.inr (.inr ⟨c, by omega, o1, o2, (nil_iff _).1 o3, (nil_iff _).1 o4⟩)))
end Go.Proofs.YtdgbililgkhjfaaDoor.Pk
