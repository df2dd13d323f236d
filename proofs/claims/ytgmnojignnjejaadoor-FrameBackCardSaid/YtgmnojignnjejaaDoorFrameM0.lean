/- The frames of texts, one behind the other, cut anywhere: plain words. No conditions. -/
import Derived.Test.YtgmnojignnjejaaDoorFrameH
namespace Go.Proofs.YtgmnojignnjejaaDoor.Frame
open Go.RowKit Go.Proofs.YtgmnojignnjejaaDoor.Crc Go.Proofs.YtgmnojignnjejaaDoor.Codec
set_option linter.unusedVariables false
/-- The frames of texts. -/
def enc (L : List (List UInt8)) : List UInt8 := L.flatMap fput
/-- How many whole frames stand within c bytes. -/
def cutN : List (List UInt8) → Nat → Nat
  | [], _ => 0
  | x :: xs, c => if 6 + x.length ≤ c then cutN xs (c - (6 + x.length)) + 1 else 0
theorem enc_cons (x : List UInt8) (xs : List (List UInt8)) : enc (x :: xs) = fput x ++ enc xs := rfl
theorem enc_len (x : List UInt8) (xs : List (List UInt8)) (h : x.length ≤ 4096) : (enc (x :: xs)).length = 6 + x.length + (enc xs).length := by rw [enc_cons, List.length_append, fput_length h]
theorem enc_snoc (xs : List (List UInt8)) (x : List UInt8) : enc (xs ++ [x]) = enc xs ++ fput x := by simp [enc]
/-- A frame cut short is torn. -/
theorem fnE_torn (x : List UInt8) (c : Nat) (h : x.length ≤ 4096) (hc : c < 6 + x.length) : fnE ((fput x).take c) = 10 := by
  have hl : ((fput x).take c).length = c := by rw [List.length_take, fput_length h]; omega
  unfold fnE
  by_cases h6 : c < 6
  · rw [if_pos (by omega)]
  · have t2 : ((fput x).take c).take 2 = leB x.length 2 := by
      rw [List.take_take, Nat.min_eq_left (by omega)]
      have e1 : fput x = leB x.length 2 ++ (leB (crc 0 (leB x.length 2 ++ x)) 4 ++ x) := by simp [fput, h, fhead]
      rw [e1]; exact List.take_left' (leB_length 2 _)
    have v2 : V (leB x.length 2) = x.length := by rw [leB_V]; exact Nat.mod_eq_of_lt (by omega)
    rw [if_neg (by omega), t2, v2, if_neg (by omega), if_pos (by omega)]
theorem cut_law (L : List (List UInt8)) : ∀ (k c : Nat), (∀ x ∈ L, x.length ≤ 4096) → c ≤ k → c ≤ (enc L).length →
    faP k ((enc L).take c) = L.take (cutN L c) ∧ faU k ((enc L).take c) = (enc (L.take (cutN L c))).length ∧ faE k ((enc L).take c) = if (enc (L.take (cutN L c))).length = c then 0 else 10 := by
  induction L with
  | nil =>
    intro k c _ _ hc
    have h0 : c = 0 := by simpa [enc] using hc
    subst h0
    cases k <;> simp [enc, cutN, faP, faU, faE]
  | cons x xs ih =>
    intro k c hx hk hc
    have hx0 := hx x (List.mem_cons_self ..)
    have hfl := fput_length hx0
    by_cases h0 : c = 0
    · subst h0
      have : cutN (x :: xs) 0 = 0 := by unfold cutN; rw [if_neg (by omega)]
      rw [this]
      cases k <;> simp [enc, faP, faU, faE]
    · obtain ⟨k', rfl⟩ : ∃ m, k = m + 1 := ⟨k - 1, by omega⟩
      have hne : (enc (x :: xs)).take c ≠ [] := by
        intro e
        have := congrArg List.length e
        rw [List.length_take, List.length_nil] at this
        omega
      by_cases h6 : 6 + x.length ≤ c
      · have ht : (enc (x :: xs)).take c = fput x ++ (enc xs).take (c - (6 + x.length)) := by
          rw [enc_cons, List.take_append, hfl, List.take_of_length_le (by omega)]
        obtain ⟨p, u, e⟩ := fn_fput x ((enc xs).take (c - (6 + x.length))) hx0
        have hd : ((enc (x :: xs)).take c).drop (6 + x.length) = (enc xs).take (c - (6 + x.length)) := by rw [ht]; exact List.drop_left' hfl
        have hcl : c - (6 + x.length) ≤ (enc xs).length := by rw [enc_cons, List.length_append, hfl] at hc; omega
        obtain ⟨i1, i2, i3⟩ := ih k' (c - (6 + x.length)) (fun y hy => hx y (List.mem_cons_of_mem _ hy)) (by omega) hcl
        have hcn : cutN (x :: xs) c = cutN xs (c - (6 + x.length)) + 1 := by rw [cutN, if_pos h6]
        rw [← ht] at p u e
        rw [hcn, List.take_succ_cons, enc_len x _ hx0]
        refine ⟨?_, ?_, ?_⟩
        · rw [faP, if_neg hne, if_pos e, p, u, hd, i1]
        · rw [faU, if_neg hne, if_pos e, u, hd, i2]
        · rw [faE, if_neg hne, if_pos e, u, hd, i3]
          by_cases hh : (enc (xs.take (cutN xs (c - (6 + x.length))))).length = c - (6 + x.length)
          · rw [if_pos hh, if_pos (by omega)]
          · rw [if_neg hh, if_neg (by omega)]
      · have ht : (enc (x :: xs)).take c = (fput x).take c := by rw [enc_cons, List.take_append_of_le_length (by omega)]
        have e := fnE_torn x c hx0 (by omega)
        rw [← ht] at e
        have hcn : cutN (x :: xs) c = 0 := by rw [cutN, if_neg h6]
        have e0 : fnE ((enc (x :: xs)).take c) ≠ 0 := by rw [e]; decide
        rw [hcn, List.take_zero]
        refine ⟨?_, ?_, ?_⟩
        · rw [faP, if_neg hne, if_neg e0]
        · rw [faU, if_neg hne, if_neg e0]; rfl
        · rw [faE, if_neg hne, if_neg e0, e, if_neg (by simp [enc]; omega)]
theorem cutN_is (L : List (List UInt8)) : ∀ (j c : Nat), (∀ x ∈ L, x.length ≤ 4096) → j ≤ L.length → (enc (L.take j)).length ≤ c → (j < L.length → c < (enc (L.take (j + 1))).length) → cutN L c = j := by
  induction L with
  | nil => intro j c _ hj _ _; simp at hj; rw [hj]; rfl
  | cons x xs ih =>
    intro j c hx hj h1 h2
    have hfl := fput_length (hx x (List.mem_cons_self ..))
    cases j with
    | zero =>
      have := h2 (by simp)
      rw [List.take_succ_cons, List.take_zero, enc_cons, List.length_append, hfl] at this
      have e0 : (enc []).length = 0 := rfl
      rw [cutN, if_neg (by omega)]
    | succ j =>
      rw [List.take_succ_cons, enc_cons, List.length_append, hfl] at h1
      rw [cutN, if_pos (by omega)]
      congr 1
      refine ih j _ (fun y hy => hx y (List.mem_cons_of_mem _ hy)) (by simpa using hj) (by omega) fun hlt => ?_
      have := h2 (by simpa using hlt)
      rw [List.take_succ_cons, enc_cons, List.length_append, hfl] at this
      omega
theorem cutN_le (L : List (List UInt8)) : ∀ c, cutN L c ≤ L.length := by
  induction L with
  | nil => intro c; exact Nat.le_refl _
  | cons x xs ih =>
    intro c
    unfold cutN
    by_cases h : 6 + x.length ≤ c
    · rw [if_pos h]; have := ih (c - (6 + x.length)); simp; exact this
    · rw [if_neg h]; exact Nat.zero_le _
theorem enc_mono (L : List (List UInt8)) (i j : Nat) (h : i ≤ j) : (enc (L.take i)).length ≤ (enc (L.take j)).length := by
  rw [show L.take i = (L.take j).take i by rw [List.take_take, Nat.min_eq_left h]]
  conv => rhs; rw [← List.take_append_drop i (L.take j)]
  rw [enc, enc, List.flatMap_append, List.length_append]
  omega
theorem enc_le (L : List (List UInt8)) (h : ∀ x ∈ L, x.length ≤ 600) : (enc L).length ≤ 606 * L.length := by
  induction L with
  | nil => simp [enc]
  | cons x xs ih =>
    rw [enc_cons, List.length_append, fput_length (by have := h x (List.mem_cons_self ..); omega), List.length_cons]
    have := ih (fun y hy => h y (List.mem_cons_of_mem _ hy))
    have := h x (List.mem_cons_self ..)
    omega
end Go.Proofs.YtgmnojignnjejaaDoor.Frame
