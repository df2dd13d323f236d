/- What the document's 'Take' answers, at once; the laws' small functions: walked. Conditions: the sizes. -/
import Derived.Test.YtghgefiaijfbgaaRecI
namespace Go.Proofs.Ytghgefiaijfbgaa.Rec
open Go.RowKit Go.Proofs.Ytghgefiaijfbgaa.Crc Go.Proofs.Ytghgefiaijfbgaa.Codec
set_option linter.unusedVariables false
theorem V_one {m : List UInt8} {i : Nat} (h : i < m.length) : V ((m.drop i).take 1) = (m[i]).toNat := by
  rw [List.drop_eq_getElem_cons h, List.take_succ_cons, List.take_zero]
  simp [V]
theorem bs_at {b : UInt8} {m : List UInt8} {i : Nat} (h : i < m.length) (h' : i + 1 < (bs (b :: m)).size) : ((bs (b :: m))[i + 1]'h').toNat = V ((m.drop i).take 1) := by
  rw [V_one h]; rfl
/-- What the document's 'Take' answers. -/
theorem rtake_any (l : List UInt8) (w : World) (hl : l.length ≤ maxLen) :
    Calls Try.prog 11 #[.string (bs l)] w fun r w' => r = .returned (.tuple #[.agg (rc (tR l).1), .int .i64 (tR l).2]) ∧ Below w.heap.size w w' := by
  cases l with
  | nil => exact rtake_nil w
  | cons b m =>
    have hs : (bs (b :: m)).size ≤ maxLen := by rw [bs_size]; exact hl
    have hsz : (bs (b :: m)).size = m.length + 1 := bs_size _
    have h0 : 0 < (bs (b :: m)).size := by omega
    have hk : ((bs (b :: m))[0]'h0).toNat = b.toNat := rfl
    simp only [tR]
    by_cases hb : 1 ≤ b.toNat ∧ b.toNat ≤ 3
    · rw [if_pos hb]
      by_cases h1 : m.length < need b.toNat
      · rw [if_pos h1]; exact rtake_short _ b.toNat w hs h0 hk hb (by omega)
      · rw [if_neg h1]
        by_cases h2 : m.length = need b.toNat
        · rw [if_pos h2]
          have hwf := rOf_wf b.toNat m
          have hmr := may_rOf m hb
          have hk' : b.toNat = 1 ∨ b.toNat = 2 ∨ b.toNat = 3 := by omega
          rcases hk' with e | e | e
          · rw [e] at h2 hk hwf hmr ⊢
            have hn : m.length = 9 := h2
            have h9 := bs_at (b := b) (m := m) (i := 8) (by omega) (by omega)
            by_cases h3 : (rOf 1 m).right = true
            · rw [if_pos h3]; exact rtake_1right _ _ _ w (by omega) hk rfl h9 (hmr.trans h3) hwf
            · rw [if_neg h3]; exact rtake_1wrong _ _ _ w (by omega) hk rfl h9 (hmr.trans (by simpa using h3)) hwf
          · rw [e] at h2 hk hwf hmr ⊢
            have hn : m.length = 10 := h2
            have h9 := bs_at (b := b) (m := m) (i := 8) (by omega) (by omega)
            have h10 := bs_at (b := b) (m := m) (i := 9) (by omega) (by omega)
            by_cases h3 : (rOf 2 m).right = true
            · rw [if_pos h3]; exact rtake_2right _ _ _ _ w (by omega) hk rfl h9 h10 (hmr.trans h3) hwf
            · rw [if_neg h3]; exact rtake_2wrong _ _ _ _ w (by omega) hk rfl h9 h10 (hmr.trans (by simpa using h3)) hwf
          · rw [e] at h2 hk hwf hmr ⊢
            have hn : m.length = 25 := h2
            have h25 := bs_at (b := b) (m := m) (i := 24) (by omega) (by omega)
            by_cases h3 : (rOf 3 m).right = true
            · rw [if_pos h3]; exact rtake_3right _ _ _ _ _ w (by omega) hk rfl rfl rfl h25 (hmr.trans h3) hwf
            · rw [if_neg h3]; exact rtake_3wrong _ _ _ _ _ w (by omega) hk rfl rfl rfl h25 (hmr.trans (by simpa using h3)) hwf
        · rw [if_neg h2]; exact rtake_long _ b.toNat w hs h0 hk hb (by omega)
    · rw [if_neg hb]; exact rtake_form _ b.toNat w hs h0 hk b.toNat_lt (by omega)
end Go.Proofs.Ytghgefiaijfbgaa.Rec
