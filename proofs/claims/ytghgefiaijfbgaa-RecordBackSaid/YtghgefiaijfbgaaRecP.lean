/- Records as texts: plain words and laws. No conditions. -/
import Derived.Test.YtghgefiaijfbgaaRecC
namespace Go.Proofs.Ytghgefiaijfbgaa.Rec
open Go.RowKit Go.Proofs.Ytghgefiaijfbgaa.Crc Go.Proofs.Ytghgefiaijfbgaa.Codec
set_option linter.unusedVariables false
theorem tk_full {j : Nat} {m : List UInt8} (h : j ≤ m.length) : tkR j (bs m) 0 = bs (m.drop j) ∧ tkE j (bs m) 0 = 0 ∧ rv j (bs m) 0 = V (m.take j) := by
  have hs : j ≤ (bs m).size := by rw [bs_size]; exact h
  refine ⟨?_, ?_, ?_⟩
  · unfold tkR; rw [if_pos rfl, if_pos hs]
    apply ByteArray.ext
    apply Array.toList_inj.1
    simp [bs, ByteArray.data_extract, List.extract_eq_take_drop, ByteArray.size]
    apply List.take_of_length_le; simp
  · unfold tkE; rw [if_pos rfl, if_pos hs]
  · unfold rv tkS; rw [if_pos rfl, if_pos hs]
    congr 1
    simp [bs, ByteArray.data_extract, List.extract_eq_take_drop]
theorem tk_short {j : Nat} {m : List UInt8} (h : m.length < j) : tkR j (bs m) 0 = bs [] ∧ tkE j (bs m) 0 = 10 := by
  have hs : ¬ j ≤ (bs m).size := by rw [bs_size]; omega
  refine ⟨?_, ?_⟩
  · unfold tkR; rw [if_pos rfl, if_neg hs]
  · unfold tkE; rw [if_pos rfl, if_neg hs]
theorem tk_err (j : Nat) (s : ByteArray) : tkR j s 10 = s ∧ tkE j s 10 = 10 := by
  refine ⟨?_, ?_⟩
  · unfold tkR; rw [if_neg (by decide)]
  · unfold tkE; rw [if_neg (by decide)]
theorem rv_lt (j : Nat) (m : List UInt8) (s : ByteArray) (e : Int) : rv j s e < 256 ^ j := by
  unfold rv
  refine Nat.lt_of_lt_of_le (V_lt _) ?_
  rw [Nat.pow_mul]
  refine Nat.pow_le_pow_right (by decide) ?_
  unfold tkS
  by_cases h : e = 0
  · rw [if_pos h]
    by_cases h2 : j ≤ s.size
    · rw [if_pos h2]; simp; omega
    · rw [if_neg h2]; exact Nat.zero_le _
  · rw [if_neg h]; exact Nat.zero_le _
/-- What a kind's text has behind the kind. -/
def need (k : Nat) : Nat := if k = 1 then 9 else if k = 2 then 10 else 25
/-- The record of a kind and the bytes behind it. -/
def rOf (k : Nat) (m : List UInt8) : R :=
  if k = 1 then { R.zero with kind := 1, frame := V (m.take 8), own := V ((m.drop 8).take 1) }
  else if k = 2 then { R.zero with kind := 2, frame := V (m.take 8), p0 := V ((m.drop 8).take 1), p1 := V ((m.drop 9).take 1) }
  else { R.zero with kind := 3, seg := V (m.take 8), first := V ((m.drop 8).take 8), epoch := V ((m.drop 16).take 8), player := V ((m.drop 24).take 1) }
theorem V_take (m : List UInt8) (a j : Nat) : V ((m.drop a).take j) < 256 ^ j := by
  refine Nat.lt_of_lt_of_le (V_lt _) ?_
  rw [Nat.pow_mul]
  exact Nat.pow_le_pow_right (by decide) (List.length_take_le _ _)
theorem rOf_wf (k : Nat) (m : List UInt8) : (rOf k m).wf := by
  have z : ∀ a, V ((m.drop a).take 8) < 18446744073709551616 := fun a => V_take m a 8
  have y : ∀ a, V ((m.drop a).take 1) < 256 := fun a => V_take m a 1
  have z0 := z 0
  have z1 := z 8
  have z2 := z 16
  have y1 := y 8
  have y2 := y 9
  have y3 := y 24
  rw [List.drop_zero] at z0
  unfold rOf
  by_cases h1 : k = 1
  · rw [if_pos h1]; constructor <;> simp [R.zero] <;> assumption
  · rw [if_neg h1]
    by_cases h2 : k = 2
    · rw [if_pos h2]; constructor <;> simp [R.zero] <;> assumption
    · rw [if_neg h2]; constructor <;> simp [R.zero] <;> assumption
/-- A text's record, and the error. -/
def tR : List UInt8 → R × Int
  | [] => (R.zero, 10)
  | b :: m => if 1 ≤ b.toNat ∧ b.toNat ≤ 3 then if m.length < need b.toNat then (R.zero, 10) else if m.length = need b.toNat then if (rOf b.toNat m).right then (rOf b.toNat m, 0) else (R.zero, 4) else (R.zero, 4) else (R.zero, 4)
/-- A record's text, if it is one. -/
def R.text (r : R) : List UInt8 :=
  if r.kind = 1 then 1 :: (leB r.frame 8 ++ leB r.own 1) else if r.kind = 2 then 2 :: (leB r.frame 8 ++ leB r.p0 1 ++ leB r.p1 1) else 3 :: (leB r.seg 8 ++ leB r.first 8 ++ leB r.epoch 8 ++ leB r.player 1)
/-- May a record be? -/
def R.may (r : R) : Prop :=
  r.right = true ∧ ((r.kind = 1 ∧ r.p0 = 0 ∧ r.p1 = 0 ∧ r.seg = 0 ∧ r.first = 0 ∧ r.epoch = 0 ∧ r.player = 0) ∨ (r.kind = 2 ∧ r.own = 0 ∧ r.seg = 0 ∧ r.first = 0 ∧ r.epoch = 0 ∧ r.player = 0) ∨ (r.kind = 3 ∧ r.frame = 0 ∧ r.own = 0 ∧ r.p0 = 0 ∧ r.p1 = 0))
instance (r : R) : Decidable r.may := by unfold R.may; infer_instance
/-- What 'Put' answers. -/
def R.put (r : R) : List UInt8 × Int := if r.may then (r.text, 0) else ([], 4)
theorem V_le {n k : Nat} (h : n < 256 ^ k) : V (leB n k) = n := by rw [leB_V]; exact Nat.mod_eq_of_lt h
/-- What Take finds in what Put writes. -/
def R.only (r : R) : R :=
  if r.kind = 1 then { R.zero with kind := 1, frame := r.frame, own := r.own } else if r.kind = 2 then { R.zero with kind := 2, frame := r.frame, p0 := r.p0, p1 := r.p1 }
  else { R.zero with kind := 3, seg := r.seg, first := r.first, epoch := r.epoch, player := r.player }
theorem tk_left {a b : List UInt8} {j : Nat} (h : a.length = j) : (a ++ b).take j = a := List.take_left' h
theorem tk_drop {a b : List UInt8} {j : Nat} (h : a.length = j) : (a ++ b).drop j = b := List.drop_left' h
theorem right_only {r : R} (h : r.right = true) : r.only.right = true := by
  obtain ⟨kind, frame, own, p0, p1, seg, first, epoch, player⟩ := r
  simp only [R.right, Bool.and_eq_true, decide_eq_true_eq] at h
  unfold R.only
  by_cases h1 : kind = 1
  · rw [if_pos h1]; simp [R.right, R.zero]; omega
  · rw [if_neg h1]
    by_cases h2 : kind = 2
    · rw [if_pos h2]; simp [R.right, R.zero]; omega
    · rw [if_neg h2]; simp [R.right, R.zero]; omega
theorem tR_ok {b : UInt8} {m : List UInt8} (hb : 1 ≤ b.toNat ∧ b.toNat ≤ 3) (hl : m.length = need b.toNat) (h : (rOf b.toNat m).right = true) : tR (b :: m) = (rOf b.toNat m, 0) := by
  simp only [tR]
  rw [if_pos hb, if_neg (by omega), if_pos hl, if_pos h]
theorem rOf1 (m : List UInt8) : rOf 1 m = ⟨1, V (m.take 8), V ((m.drop 8).take 1), 0, 0, 0, 0, 0, 0⟩ := rfl
theorem rOf2 (m : List UInt8) : rOf 2 m = ⟨2, V (m.take 8), 0, V ((m.drop 8).take 1), V ((m.drop 9).take 1), 0, 0, 0, 0⟩ := rfl
theorem rOf3 (m : List UInt8) : rOf 3 m = ⟨3, 0, 0, 0, 0, V (m.take 8), V ((m.drop 8).take 8), V ((m.drop 16).take 8), V ((m.drop 24).take 1)⟩ := rfl
theorem leB_all (n : Nat) : (leB n 1).take 1 = leB n 1 := List.take_of_length_le (by rw [leB_length]; decide)
theorem tR_text {r : R} (hr : r.wf) (hk : 1 ≤ r.kind ∧ r.kind ≤ 3) (h : r.right = true) : tR r.text = (r.only, 0) := by
  have hro := right_only h
  obtain ⟨kind, frame, own, p0, p1, seg, first, epoch, player⟩ := r
  have v1 : V (leB frame 8) = frame := V_le hr.frame
  have v2 : V (leB own 1) = own := V_le hr.own
  have v3 : V (leB p0 1) = p0 := V_le hr.p0
  have v4 : V (leB p1 1) = p1 := V_le hr.p1
  have v5 : V (leB seg 8) = seg := V_le hr.seg
  have v6 : V (leB first 8) = first := V_le hr.first
  have v7 : V (leB epoch 8) = epoch := V_le hr.epoch
  have v8 : V (leB player 1) = player := V_le hr.player
  have l8 : ∀ n, (leB n 8).length = 8 := leB_length 8
  have l1 : ∀ n, (leB n 1).length = 1 := leB_length 1
  dsimp only at hk
  have hk' : kind = 1 ∨ kind = 2 ∨ kind = 3 := by omega
  rcases hk' with rfl | rfl | rfl
  · have e : rOf 1 (leB frame 8 ++ leB own 1) = R.only ⟨1, frame, own, p0, p1, seg, first, epoch, player⟩ := by
      rw [rOf1, tk_left (l8 _), tk_drop (l8 _), leB_all, v1, v2]; rfl
    have := tR_ok (b := 1) (m := leB frame 8 ++ leB own 1) (by decide) (by simp [l8, l1, need]) (by show (rOf 1 _).right = true; rw [e]; exact hro)
    exact this.trans (by show (rOf 1 _, (0 : Int)) = _; rw [e])
  · have e : rOf 2 (leB frame 8 ++ leB p0 1 ++ leB p1 1) = R.only ⟨2, frame, own, p0, p1, seg, first, epoch, player⟩ := by
      have d9 : (leB frame 8 ++ leB p0 1 ++ leB p1 1).drop 9 = leB p1 1 := tk_drop (by simp [l8, l1])
      rw [rOf2, d9, List.append_assoc, tk_left (l8 _), tk_drop (l8 _), tk_left (l1 _), leB_all, v1, v3, v4]; rfl
    have := tR_ok (b := 2) (m := leB frame 8 ++ leB p0 1 ++ leB p1 1) (by decide) (by simp [l8, l1, need]) (by show (rOf 2 _).right = true; rw [e]; exact hro)
    exact this.trans (by show (rOf 2 _, (0 : Int)) = _; rw [e])
  · have e : rOf 3 (leB seg 8 ++ leB first 8 ++ leB epoch 8 ++ leB player 1) = R.only ⟨3, frame, own, p0, p1, seg, first, epoch, player⟩ := by
      have d24 : (leB seg 8 ++ leB first 8 ++ leB epoch 8 ++ leB player 1).drop 24 = leB player 1 := tk_drop (by simp [l8])
      have d16 : (leB seg 8 ++ leB first 8 ++ leB epoch 8 ++ leB player 1).drop 16 = leB epoch 8 ++ leB player 1 := by rw [List.append_assoc]; exact tk_drop (by simp [l8])
      have d8 : (leB seg 8 ++ leB first 8 ++ leB epoch 8 ++ leB player 1).drop 8 = leB first 8 ++ (leB epoch 8 ++ leB player 1) := by rw [List.append_assoc, List.append_assoc]; exact tk_drop (l8 _)
      rw [rOf3, d24, d16, d8, List.append_assoc, List.append_assoc, tk_left (l8 _), tk_left (l8 _), tk_left (l8 _), leB_all, v5, v6, v7, v8]; rfl
    have := tR_ok (b := 3) (m := leB seg 8 ++ leB first 8 ++ leB epoch 8 ++ leB player 1) (by decide) (by simp [l8, l1, need]) (by show (rOf 3 _).right = true; rw [e]; exact hro)
    exact this.trans (by show (rOf 3 _, (0 : Int)) = _; rw [e])
theorem only_iff {r : R} (hk : 1 ≤ r.kind ∧ r.kind ≤ 3) (h : r.right = true) : r.only = r ↔ r.may := by
  obtain ⟨kind, frame, own, p0, p1, seg, first, epoch, player⟩ := r
  dsimp only at hk
  have hk' : kind = 1 ∨ kind = 2 ∨ kind = 3 := by omega
  unfold R.may
  rw [h]
  rcases hk' with rfl | rfl | rfl <;> simp [R.only, R.zero] <;> constructor <;> intro h <;> omega
theorem may_kind {r : R} (h : r.may) : 1 ≤ r.kind ∧ r.kind ≤ 3 := by
  rcases h.2 with h | h | h <;> omega
theorem text_length {r : R} (hk : 1 ≤ r.kind ∧ r.kind ≤ 3) : r.text.length = need r.kind.toNat + 1 := by
  obtain ⟨kind, frame, own, p0, p1, seg, first, epoch, player⟩ := r
  dsimp only at hk
  have hk' : kind = 1 ∨ kind = 2 ∨ kind = 3 := by omega
  rcases hk' with rfl | rfl | rfl <;> simp [R.text, need, leB_length]
theorem text_head {r : R} (hk : 1 ≤ r.kind ∧ r.kind ≤ 3) : r.text.head? = some (UInt8.ofNat r.kind.toNat) := by
  obtain ⟨kind, frame, own, p0, p1, seg, first, epoch, player⟩ := r
  dsimp only at hk
  have hk' : kind = 1 ∨ kind = 2 ∨ kind = 3 := by omega
  rcases hk' with rfl | rfl | rfl <;> rfl
/-- What is put is taken as what it was. -/
theorem tR_put {r : R} (hr : r.wf) (h : r.may) : tR r.text = (r, 0) := by
  have hk := may_kind h
  rw [tR_text hr hk h.1, (only_iff hk h.1).2 h]
/-- No text of a record is the beginning of another one's. -/
theorem text_prefix {a b : R} (ha : a.wf) (hb : b.wf) (ma : a.may) (mb : b.may) (h : a.text <+: b.text) : a = b := by
  have ka := may_kind ma
  have kb := may_kind mb
  obtain ⟨t, ht⟩ := h
  have h1 := text_head ka
  have h2 := text_head kb
  have hne : a.text ≠ [] := by intro e; rw [e] at h1; cases h1
  have hh : (a.text ++ t).head? = a.text.head? := by cases ha : a.text with | nil => exact absurd ha hne | cons x y => rfl
  rw [← ht, hh, h1] at h2
  have hk : a.kind.toNat = b.kind.toNat := by
    have := congrArg (fun x : Option UInt8 => (x.getD 0).toNat) h2
    simp at this
    omega
  have hl : a.text.length = b.text.length := by rw [text_length ka, text_length kb, hk]
  have ht0 : t = [] := by
    have := congrArg List.length ht
    rw [List.length_append] at this
    exact List.eq_nil_of_length_eq_zero (by omega)
  rw [ht0, List.append_nil] at ht
  have e := tR_put ha ma
  rw [ht, tR_put hb mb] at e
  exact (congrArg Prod.fst e).symm
/-- What is taken has that text. -/
theorem tR_back {l : List UInt8} {r : R} (h : tR l = (r, 0)) : r.may ∧ r.text = l := by
  cases l with
  | nil => cases h
  | cons b m =>
    simp only [tR] at h
    by_cases hb : 1 ≤ b.toNat ∧ b.toNat ≤ 3
    · rw [if_pos hb] at h
      by_cases h1 : m.length < need b.toNat
      · rw [if_pos h1] at h; cases h
      · rw [if_neg h1] at h
        by_cases h2 : m.length = need b.toNat
        · rw [if_pos h2] at h
          by_cases h3 : (rOf b.toNat m).right
          · rw [if_pos h3] at h
            have hr : rOf b.toNat m = r := congrArg Prod.fst h
            have hk : b.toNat = 1 ∨ b.toNat = 2 ∨ b.toNat = 3 := by omega
            have cut : ∀ a j, a + j ≤ m.length → leB (V ((m.drop a).take j)) j = (m.drop a).take j := fun a j haj => by
              have hh : ((m.drop a).take j).length = j := by rw [List.length_take, List.length_drop]; omega
              have := V_leB ((m.drop a).take j)
              rw [hh] at this
              exact this
            have c0 := cut 0 8 (by rcases hk with k | k | k <;> rw [k] at h2 <;> simp [need] at h2 <;> omega)
            have c8 := cut 8 1 (by rcases hk with k | k | k <;> rw [k] at h2 <;> simp [need] at h2 <;> omega)
            rw [List.drop_zero] at c0
            have hbk : UInt8.ofNat b.toNat = b := by simp
            refine ⟨?_, ?_⟩
            · rw [← hr]
              refine ⟨h3, ?_⟩
              rcases hk with k | k | k <;> rw [k] <;> simp [rOf, R.zero]
            · rw [← hr]
              rcases hk with k | k | k
              · rw [k] at h2 ⊢
                have hb1 : b = 1 := by rw [← hbk, k]; rfl
                have e8 : (m.drop 8).take 1 = m.drop 8 := List.take_of_length_le (by rw [List.length_drop, h2]; decide)
                simp only [rOf, R.text, if_true, R.zero]
                rw [c0, c8, e8, List.take_append_drop, hb1]
              · rw [k] at h2 ⊢
                have hb1 : b = 2 := by rw [← hbk, k]; rfl
                have c9 := cut 9 1 (by rw [h2]; decide)
                have e9 : (m.drop 9).take 1 = m.drop 9 := List.take_of_length_le (by rw [List.length_drop, h2]; decide)
                simp only [rOf, R.text, R.zero]
                simp
                rw [c0, c8, c9, e9, hb1]
                refine ⟨rfl, ?_⟩
                rw [show m.drop 9 = (m.drop 8).drop 1 by rw [List.drop_drop], List.take_append_drop, List.take_append_drop]
              · rw [k] at h2 ⊢
                have hb1 : b = 3 := by rw [← hbk, k]; rfl
                have c8' := cut 8 8 (by rw [h2]; decide)
                have c16 := cut 16 8 (by rw [h2]; decide)
                have c24 := cut 24 1 (by rw [h2]; decide)
                have e24 : (m.drop 24).take 1 = m.drop 24 := List.take_of_length_le (by rw [List.length_drop, h2]; decide)
                simp only [rOf, R.text, R.zero]
                simp
                rw [c0, c8', c16, c24, e24, hb1]
                refine ⟨rfl, ?_⟩
                rw [show m.drop 24 = (m.drop 16).drop 8 by rw [List.drop_drop], List.take_append_drop, show m.drop 16 = (m.drop 8).drop 8 by rw [List.drop_drop], List.take_append_drop, List.take_append_drop]
          · rw [if_neg h3] at h; cases h
        · rw [if_neg h2] at h; cases h
    · rw [if_neg hb] at h; cases h
theorem tR_none {l : List UInt8} (h : (tR l).2 ≠ 0) : (tR l).1 = R.zero := by
  cases l with
  | nil => rfl
  | cons b m =>
    simp only [tR] at h ⊢
    by_cases hb : 1 ≤ b.toNat ∧ b.toNat ≤ 3
    · rw [if_pos hb] at h ⊢
      by_cases h1 : m.length < need b.toNat
      · rw [if_pos h1]
      · rw [if_neg h1] at h ⊢
        by_cases h2 : m.length = need b.toNat
        · rw [if_pos h2] at h ⊢
          by_cases h3 : (rOf b.toNat m).right
          · rw [if_pos h3] at h; exact absurd rfl h
          · rw [if_neg h3]
        · rw [if_neg h2]
    · rw [if_neg hb]
end Go.Proofs.Ytghgefiaijfbgaa.Rec
