/- Packets as texts: plain words and laws. No conditions. -/
import Derived.Test.YtdgbililgkhjfaaDoorCodec0
namespace Go.Proofs.YtdgbililgkhjfaaDoor.Pk
open Go.RowKit Go.Proofs.YtdgbililgkhjfaaDoor.Crc Go.Proofs.YtdgbililgkhjfaaDoor.Codec
set_option linter.unusedVariables false
/-- A packet. -/
structure K where
  kind : Int
  player : Nat
  epoch : Nat
  dest : Nat
  count : Nat
  own : Nat
  first : Nat
  ins : List UInt8
  prs : List (UInt8 × UInt8)
  frame : Nat
  sum : Nat
theorem K.ext' {a b : K} (h0 : a.kind = b.kind) (h1 : a.player = b.player) (h2 : a.epoch = b.epoch) (h3 : a.dest = b.dest) (h4 : a.count = b.count) (h5 : a.own = b.own) (h6 : a.first = b.first) (h7 : a.ins = b.ins) (h8 : a.prs = b.prs) (h9 : a.frame = b.frame) (h10 : a.sum = b.sum) : a = b := by
  cases a; cases b; simp_all
def K.zero : K := ⟨0, 0, 0, 0, 0, 0, 0, [], [], 0, 0⟩
/-- The numbers are what their types bear. -/
structure K.wf (k : K) : Prop where
  kind : -9223372036854775808 ≤ k.kind ∧ k.kind ≤ 9223372036854775807
  player : k.player < 256
  epoch : k.epoch < 18446744073709551616
  dest : k.dest < 18446744073709551616
  count : k.count < 18446744073709551616
  own : k.own < 18446744073709551616
  first : k.first < 18446744073709551616
  frame : k.frame < 18446744073709551616
  sum : k.sum < 18446744073709551616
/-- Pairs, one byte behind the other. -/
def flat : List (UInt8 × UInt8) → List UInt8
  | [] => []
  | p :: l => p.1 :: p.2 :: flat l
def unflat : List UInt8 → List (UInt8 × UInt8)
  | a :: b :: l => (a, b) :: unflat l
  | _ => []
theorem flat_length : ∀ l, (flat l).length = 2 * l.length
  | [] => rfl
  | p :: l => by simp only [flat, List.length_cons, flat_length l]; omega
theorem unflat_flat : ∀ l, unflat (flat l) = l
  | [] => rfl
  | p :: l => by simp only [flat, unflat, unflat_flat l]
theorem flat_unflat : ∀ n (l : List UInt8), l.length = 2 * n → flat (unflat l) = l ∧ (unflat l).length = n
  | 0, l, h => by
    have : l = [] := List.eq_nil_of_length_eq_zero (by omega)
    subst this
    exact ⟨rfl, rfl⟩
  | n + 1, l, h => by
    match l, h with
    | a :: b :: l, h =>
      have ih := flat_unflat n l (by simp only [List.length_cons] at h; omega)
      exact ⟨by simp only [unflat, flat, ih.1], by simp only [unflat, List.length_cons, ih.2]⟩
/-- May a packet be, whose kind's fields are all that it has? -/
def K.may (k : K) : Prop :=
  1 ≤ k.kind ∧ k.kind ≤ 5 ∧ k.player ≤ 1 ∧ k.epoch ≠ 0 ∧ (k.dest ≠ 0 ∨ k.kind = 1) ∧ (k.kind ≤ 2 → k.count ≤ k.own) ∧ (k.kind = 4 → k.ins.length + k.prs.length ≠ 0) ∧ k.ins.length + k.prs.length ≤ 32 ∧
    k.first + (k.ins.length + k.prs.length) ≤ 18446744073709551615 ∧ (∀ i ∈ k.ins, i.toNat < 64) ∧ (∀ p ∈ k.prs, p.1.toNat < 64 ∧ p.2.toNat < 64)
instance (k : K) : Decidable k.may := by unfold K.may; infer_instance
/-- What a kind's text has behind the fields that each has. -/
def K.tail (k : K) : List UInt8 :=
  if k.kind = 1 ∨ k.kind = 2 then leB k.own 8 else if k.kind = 3 then leB k.first 8 ++ (leB k.ins.length 1 ++ k.ins) else if k.kind = 4 then leB k.first 8 ++ (leB k.prs.length 1 ++ flat k.prs) else if k.kind = 5 then leB k.frame 8 ++ leB k.sum 8 else []
def K.body (k : K) : List UInt8 := leB k.player 1 ++ (leB k.epoch 8 ++ (leB k.dest 8 ++ (leB k.count 8 ++ k.tail)))
/-- What a packet's frame has. -/
def K.pay (k : K) : List UInt8 := UInt8.ofNat k.kind.toNat :: k.body
/-- The fields that its kind names. -/
def K.only (k : K) : K :=
  if k.kind = 1 ∨ k.kind = 2 then ⟨k.kind, k.player, k.epoch, k.dest, k.count, k.own, 0, [], [], 0, 0⟩ else if k.kind = 3 then ⟨k.kind, k.player, k.epoch, k.dest, k.count, 0, k.first, k.ins, [], 0, 0⟩
  else if k.kind = 4 then ⟨k.kind, k.player, k.epoch, k.dest, k.count, 0, k.first, [], k.prs, 0, 0⟩ else if k.kind = 5 then ⟨k.kind, k.player, k.epoch, k.dest, k.count, 0, 0, [], [], k.frame, k.sum⟩ else ⟨k.kind, k.player, k.epoch, k.dest, k.count, 0, 0, [], [], 0, 0⟩
/-- The packet of a kind and the bytes behind it; none: some are missing, or too many. -/
def par (c : Nat) (m : List UInt8) : Option K :=
  if m.length < 25 then none
  else if c = 1 ∨ c = 2 then if m.length = 33 then some ⟨c, V (m.take 1), V ((m.drop 1).take 8), V ((m.drop 9).take 8), V ((m.drop 17).take 8), V ((m.drop 25).take 8), 0, [], [], 0, 0⟩ else none
  else if c = 3 then
    if m.length < 34 then none
    else if m.length = 34 + min (V ((m.drop 33).take 1)) 33 then some ⟨c, V (m.take 1), V ((m.drop 1).take 8), V ((m.drop 9).take 8), V ((m.drop 17).take 8), 0, V ((m.drop 25).take 8), m.drop 34, [], 0, 0⟩ else none
  else if c = 4 then
    if m.length < 34 then none
    else if m.length = 34 + 2 * min (V ((m.drop 33).take 1)) 33 then some ⟨c, V (m.take 1), V ((m.drop 1).take 8), V ((m.drop 9).take 8), V ((m.drop 17).take 8), 0, V ((m.drop 25).take 8), [], unflat (m.drop 34), 0, 0⟩ else none
  else if c = 5 then if m.length = 41 then some ⟨c, V (m.take 1), V ((m.drop 1).take 8), V ((m.drop 9).take 8), V ((m.drop 17).take 8), 0, 0, [], [], V ((m.drop 25).take 8), V ((m.drop 33).take 8)⟩ else none
  else if m.length = 25 then some ⟨c, V (m.take 1), V ((m.drop 1).take 8), V ((m.drop 9).take 8), V ((m.drop 17).take 8), 0, 0, [], [], 0, 0⟩ else none
theorem V_le {n k : Nat} (h : n < 256 ^ k) : V (leB n k) = n := by rw [leB_V]; exact Nat.mod_eq_of_lt h
theorem tk_left {a b : List UInt8} {j : Nat} (h : a.length = j) : (a ++ b).take j = a := List.take_left' h
theorem tk_drop {a b : List UInt8} {j : Nat} (h : a.length = j) : (a ++ b).drop j = b := List.drop_left' h
theorem cut_V {m : List UInt8} (a j : Nat) (h : a + j ≤ m.length) : leB (V ((m.drop a).take j)) j = (m.drop a).take j := by
  have hh : ((m.drop a).take j).length = j := by rw [List.length_take, List.length_drop]; omega
  have := V_leB ((m.drop a).take j)
  rw [hh] at this
  exact this
theorem V_cut (m : List UInt8) (a j : Nat) : V ((m.drop a).take j) < 256 ^ j := by
  refine Nat.lt_of_lt_of_le (V_lt _) ?_
  rw [Nat.pow_mul]
  exact Nat.pow_le_pow_right (by decide) (List.length_take_le _ _)
/-- What stands where in the bytes of a body. -/
theorem body_cuts (k : K) (hk : k.wf) : V (k.body.take 1) = k.player ∧ V ((k.body.drop 1).take 8) = k.epoch ∧ V ((k.body.drop 9).take 8) = k.dest ∧ V ((k.body.drop 17).take 8) = k.count ∧ k.body.drop 25 = k.tail ∧ k.body.length = 25 + k.tail.length := by
  have l8 : ∀ n, (leB n 8).length = 8 := leB_length 8
  have l1 : ∀ n, (leB n 1).length = 1 := leB_length 1
  have d1 : k.body.drop 1 = leB k.epoch 8 ++ (leB k.dest 8 ++ (leB k.count 8 ++ k.tail)) := tk_drop (l1 _)
  have d9 : k.body.drop 9 = leB k.dest 8 ++ (leB k.count 8 ++ k.tail) := by
    rw [show 9 = 1 + 8 from rfl, ← List.drop_drop, d1]; exact tk_drop (l8 _)
  have d17 : k.body.drop 17 = leB k.count 8 ++ k.tail := by
    rw [show 17 = 9 + 8 from rfl, ← List.drop_drop, d9]; exact tk_drop (l8 _)
  have d25 : k.body.drop 25 = k.tail := by
    rw [show 25 = 17 + 8 from rfl, ← List.drop_drop, d17]; exact tk_drop (l8 _)
  refine ⟨?_, ?_, ?_, ?_, d25, ?_⟩
  · rw [show k.body.take 1 = leB k.player 1 from tk_left (l1 _)]; exact V_le hk.player
  · rw [d1, tk_left (l8 _)]; exact V_le hk.epoch
  · rw [d9, tk_left (l8 _)]; exact V_le hk.dest
  · rw [d17, tk_left (l8 _)]; exact V_le hk.count
  · unfold K.body; simp only [List.length_append, l8, l1]; omega
/-- What is put is taken as the fields that its kind names. -/
theorem par_body {k : K} (hk : k.wf) (c : Nat) (hc : k.kind = c) (h1 : 1 ≤ c ∧ c ≤ 5) (hi : k.ins.length ≤ 32) (hp : k.prs.length ≤ 32) : par c k.body = some k.only := by
  obtain ⟨e1, e2, e3, e4, e5, e6⟩ := body_cuts k hk
  have l8 : ∀ n, (leB n 8).length = 8 := leB_length 8
  have l1 : ∀ n, (leB n 1).length = 1 := leB_length 1
  unfold par
  rw [if_neg (by omega), e1, e2, e3, e4]
  have h5 : c = 1 ∨ c = 2 ∨ c = 3 ∨ c = 4 ∨ c = 5 := by omega
  rcases h5 with rfl | rfl | rfl | rfl | rfl
  · have ht : k.tail = leB k.own 8 := by unfold K.tail; rw [if_pos (by omega)]
    have ho : k.only = ⟨k.kind, k.player, k.epoch, k.dest, k.count, k.own, 0, [], [], 0, 0⟩ := by unfold K.only; rw [if_pos (by omega)]
    rw [if_pos (by omega), if_pos (by rw [e6, ht, l8]), e5, ht, List.take_of_length_le (by rw [l8]; decide), V_le hk.own, ho, hc]
  · have ht : k.tail = leB k.own 8 := by unfold K.tail; rw [if_pos (by omega)]
    have ho : k.only = ⟨k.kind, k.player, k.epoch, k.dest, k.count, k.own, 0, [], [], 0, 0⟩ := by unfold K.only; rw [if_pos (by omega)]
    rw [if_pos (by omega), if_pos (by rw [e6, ht, l8]), e5, ht, List.take_of_length_le (by rw [l8]; decide), V_le hk.own, ho, hc]
  · have ht : k.tail = leB k.first 8 ++ (leB k.ins.length 1 ++ k.ins) := by unfold K.tail; rw [if_neg (by omega), if_pos (by omega)]
    have ho : k.only = ⟨k.kind, k.player, k.epoch, k.dest, k.count, 0, k.first, k.ins, [], 0, 0⟩ := by unfold K.only; rw [if_neg (by omega), if_pos (by omega)]
    have d33 : k.body.drop 33 = leB k.ins.length 1 ++ k.ins := by rw [show 33 = 25 + 8 from rfl, ← List.drop_drop, e5, ht]; exact tk_drop (l8 _)
    have d34 : k.body.drop 34 = k.ins := by rw [show 34 = 33 + 1 from rfl, ← List.drop_drop, d33]; exact tk_drop (l1 _)
    have hn : V ((k.body.drop 33).take 1) = k.ins.length := by rw [d33, tk_left (l1 _)]; exact V_le (by omega)
    have hl : k.body.length = 34 + k.ins.length := by rw [e6, ht]; simp only [List.length_append, l8, l1]; omega
    rw [if_neg (by omega), if_pos rfl, if_neg (by omega), hn, if_pos (by omega), e5, ht, tk_left (l8 _), V_le hk.first, d34, ho, hc]
  · have ht : k.tail = leB k.first 8 ++ (leB k.prs.length 1 ++ flat k.prs) := by unfold K.tail; rw [if_neg (by omega), if_neg (by omega), if_pos (by omega)]
    have ho : k.only = ⟨k.kind, k.player, k.epoch, k.dest, k.count, 0, k.first, [], k.prs, 0, 0⟩ := by unfold K.only; rw [if_neg (by omega), if_neg (by omega), if_pos (by omega)]
    have d33 : k.body.drop 33 = leB k.prs.length 1 ++ flat k.prs := by rw [show 33 = 25 + 8 from rfl, ← List.drop_drop, e5, ht]; exact tk_drop (l8 _)
    have d34 : k.body.drop 34 = flat k.prs := by rw [show 34 = 33 + 1 from rfl, ← List.drop_drop, d33]; exact tk_drop (l1 _)
    have hn : V ((k.body.drop 33).take 1) = k.prs.length := by rw [d33, tk_left (l1 _)]; exact V_le (by omega)
    have hl : k.body.length = 34 + 2 * k.prs.length := by rw [e6, ht]; simp only [List.length_append, l8, l1, flat_length]; omega
    rw [if_neg (by omega), if_neg (by omega), if_pos rfl, if_neg (by omega), hn, if_pos (by omega), e5, ht, tk_left (l8 _), V_le hk.first, d34, unflat_flat, ho, hc]
  · have ht : k.tail = leB k.frame 8 ++ leB k.sum 8 := by unfold K.tail; rw [if_neg (by omega), if_neg (by omega), if_neg (by omega), if_pos (by omega)]
    have ho : k.only = ⟨k.kind, k.player, k.epoch, k.dest, k.count, 0, 0, [], [], k.frame, k.sum⟩ := by unfold K.only; rw [if_neg (by omega), if_neg (by omega), if_neg (by omega), if_pos (by omega)]
    have d33 : k.body.drop 33 = leB k.sum 8 := by rw [show 33 = 25 + 8 from rfl, ← List.drop_drop, e5, ht]; exact tk_drop (l8 _)
    have hl : k.body.length = 41 := by rw [e6, ht]; simp only [List.length_append, l8]
    rw [if_neg (by omega), if_neg (by omega), if_neg (by omega), if_pos rfl, if_pos hl, e5, ht, tk_left (l8 _), V_le hk.frame, d33, List.take_of_length_le (by rw [l8]; decide), V_le hk.sum, ho, hc]
/-- What is taken has that text, and no field that its kind does not name. -/
theorem par_back {c : Nat} {m : List UInt8} {k : K} (h : par c m = some k) (h1 : 1 ≤ c ∧ c ≤ 5) (hi : k.ins.length ≤ 32) (hp : k.prs.length ≤ 32) : k.kind = c ∧ k.body = m ∧ k.only = k := by
  unfold par at h
  by_cases h25 : m.length < 25
  · rw [if_pos h25] at h; cases h
  rw [if_neg h25] at h
  have c1 : leB (V (m.take 1)) 1 = m.take 1 := cut_V 0 1 (by omega)
  have c2 := cut_V (m := m) 1 8 (by omega)
  have c3 := cut_V (m := m) 9 8 (by omega)
  have c4 := cut_V (m := m) 17 8 (by omega)
  have glue : ∀ t, m.drop 25 = t → m.take 1 ++ ((m.drop 1).take 8 ++ ((m.drop 9).take 8 ++ ((m.drop 17).take 8 ++ t))) = m := by
    intro t ht
    rw [← ht, show m.drop 25 = (m.drop 17).drop 8 by rw [List.drop_drop], List.take_append_drop, show m.drop 17 = (m.drop 9).drop 8 by rw [List.drop_drop], List.take_append_drop, show m.drop 9 = (m.drop 1).drop 8 by rw [List.drop_drop], List.take_append_drop, List.take_append_drop]
  have h5 : c = 1 ∨ c = 2 ∨ c = 3 ∨ c = 4 ∨ c = 5 := by omega
  rcases h5 with rfl | rfl | rfl | rfl | rfl
  · rw [if_pos (by omega)] at h
    by_cases hl : m.length = 33
    · rw [if_pos hl] at h
      cases h
      refine ⟨rfl, ?_, rfl⟩
      show leB _ 1 ++ (leB _ 8 ++ (leB _ 8 ++ (leB _ 8 ++ leB _ 8))) = m
      rw [c1, c2, c3, c4, cut_V 25 8 (by omega)]
      exact glue _ (List.take_of_length_le (by rw [List.length_drop]; omega)).symm
    · rw [if_neg hl] at h; cases h
  · rw [if_pos (by omega)] at h
    by_cases hl : m.length = 33
    · rw [if_pos hl] at h
      cases h
      refine ⟨rfl, ?_, rfl⟩
      show leB _ 1 ++ (leB _ 8 ++ (leB _ 8 ++ (leB _ 8 ++ leB _ 8))) = m
      rw [c1, c2, c3, c4, cut_V 25 8 (by omega)]
      exact glue _ (List.take_of_length_le (by rw [List.length_drop]; omega)).symm
    · rw [if_neg hl] at h; cases h
  · rw [if_neg (by omega), if_pos rfl] at h
    by_cases h34 : m.length < 34
    · rw [if_pos h34] at h; cases h
    · rw [if_neg h34] at h
      by_cases hl : m.length = 34 + min (V ((m.drop 33).take 1)) 33
      · rw [if_pos hl] at h
        cases h
        refine ⟨rfl, ?_, rfl⟩
        have hi' : (m.drop 34).length ≤ 32 := hi
        have hn : (m.drop 34).length = V ((m.drop 33).take 1) := by rw [List.length_drop] at hi' ⊢; omega
        show leB _ 1 ++ (leB _ 8 ++ (leB _ 8 ++ (leB _ 8 ++ (leB _ 8 ++ (leB (m.drop 34).length 1 ++ m.drop 34))))) = m
        rw [c1, c2, c3, c4, cut_V 25 8 (by omega), hn, cut_V 33 1 (by omega)]
        refine glue _ ?_
        rw [show m.drop 34 = (m.drop 33).drop 1 by rw [List.drop_drop], List.take_append_drop, show m.drop 33 = (m.drop 25).drop 8 by rw [List.drop_drop], List.take_append_drop]
      · rw [if_neg hl] at h; cases h
  · rw [if_neg (by omega), if_neg (by omega), if_pos rfl] at h
    by_cases h34 : m.length < 34
    · rw [if_pos h34] at h; cases h
    · rw [if_neg h34] at h
      by_cases hl : m.length = 34 + 2 * min (V ((m.drop 33).take 1)) 33
      · rw [if_pos hl] at h
        cases h
        refine ⟨rfl, ?_, rfl⟩
        have hp' : (unflat (m.drop 34)).length ≤ 32 := hp
        obtain ⟨f1, f2⟩ := flat_unflat (min (V ((m.drop 33).take 1)) 33) (m.drop 34) (by rw [List.length_drop]; omega)
        have hn : (unflat (m.drop 34)).length = V ((m.drop 33).take 1) := by omega
        show leB _ 1 ++ (leB _ 8 ++ (leB _ 8 ++ (leB _ 8 ++ (leB _ 8 ++ (leB (unflat (m.drop 34)).length 1 ++ flat (unflat (m.drop 34))))))) = m
        rw [c1, c2, c3, c4, cut_V 25 8 (by omega), hn, f1, cut_V 33 1 (by omega)]
        refine glue _ ?_
        rw [show m.drop 34 = (m.drop 33).drop 1 by rw [List.drop_drop], List.take_append_drop, show m.drop 33 = (m.drop 25).drop 8 by rw [List.drop_drop], List.take_append_drop]
      · rw [if_neg hl] at h; cases h
  · rw [if_neg (by omega), if_neg (by omega), if_neg (by omega), if_pos rfl] at h
    by_cases hl : m.length = 41
    · rw [if_pos hl] at h
      cases h
      refine ⟨rfl, ?_, rfl⟩
      show leB _ 1 ++ (leB _ 8 ++ (leB _ 8 ++ (leB _ 8 ++ (leB _ 8 ++ leB _ 8)))) = m
      rw [c1, c2, c3, c4, cut_V 25 8 (by omega), cut_V 33 8 (by omega)]
      refine glue _ ?_
      rw [List.take_of_length_le (l := m.drop 33) (by rw [List.length_drop]; omega), show m.drop 33 = (m.drop 25).drop 8 by rw [List.drop_drop], List.take_append_drop]
    · rw [if_neg hl] at h; cases h
/-- What 'Put' answers of the payload's text: is it a packet? -/
def K.good (k : K) : Prop := k.may ∧ k.only = k
theorem par_wf {c : Nat} {m : List UInt8} {k : K} (h : par c m = some k) (hc : c < 256) : k.wf := by
  have y : ∀ a, V ((m.drop a).take 8) < 18446744073709551616 := fun a => V_cut m a 8
  have y1 : V (m.take 1) < 256 := V_cut m 0 1
  have z : (0 : Nat) < 18446744073709551616 := by decide
  have zc : -9223372036854775808 ≤ (c : Int) ∧ (c : Int) ≤ 9223372036854775807 := by omega
  unfold par at h
  split at h
  · cases h
  · split at h
    · split at h
      · cases h; exact ⟨zc, y1, y 1, y 9, y 17, y 25, z, z, z⟩
      · cases h
    · split at h
      · split at h
        · cases h
        · split at h
          · cases h; exact ⟨zc, y1, y 1, y 9, y 17, z, y 25, z, z⟩
          · cases h
      · split at h
        · split at h
          · cases h
          · split at h
            · cases h; exact ⟨zc, y1, y 1, y 9, y 17, z, y 25, z, z⟩
            · cases h
        · split at h
          · split at h
            · cases h; exact ⟨zc, y1, y 1, y 9, y 17, z, z, y 25, y 33⟩
            · cases h
          · split at h
            · cases h; exact ⟨zc, y1, y 1, y 9, y 17, z, z, z, z⟩
            · cases h
end Go.Proofs.YtdgbililgkhjfaaDoor.Pk
