/- What writing a packet's fields writes; what 'Put' answers: plain. No conditions. -/
import Derived.Test.YtdgbililgkhjfaaDoorPkT
import Derived.Test.YtdgbililgkhjfaaDoorPkR
namespace Go.Proofs.YtdgbililgkhjfaaDoor.Pk
open Go.RowKit Go.Proofs.YtdgbililgkhjfaaDoor.Crc Go.Proofs.YtdgbililgkhjfaaDoor.Codec Go.Proofs.YtdgbililgkhjfaaDoor.CrcWalk Go.Proofs.YtdgbililgkhjfaaDoor.Frame
set_option linter.unusedVariables false
theorem leB_byte (b : UInt8) : leB b.toNat 1 = [b] := by
  rw [leB, leB]
  have : b.toNat % 256 = b.toNat := Nat.mod_eq_of_lt b.toNat_lt
  rw [this, UInt8.ofNat_toNat]
theorem bs_O : ∀ (l : List UInt8) (st : List UInt8), psO.bs st l = (l, st ++ l)
  | [], st => by simp [Ps.bs]
  | b :: l, st => by
    unfold Ps.bs
    have h : psO.b st b.toNat = (b.toNat, st ++ [b]) := by show (b.toNat, st ++ leB b.toNat 1) = _; rw [leB_byte]
    rw [h]
    dsimp only
    rw [bs_O l]
    simp
theorem grow_same (l : List UInt8) : grow l l.length = l := by unfold grow; rw [if_pos rfl]
theorem psO_fields (k : K) (L : List UInt8) : (psO.fields (k, L)).2 = L ++ k.body := by
  have hh : psO.three (psO.player (k, L)) = (k, L ++ leB k.player 1 ++ leB k.epoch 8 ++ leB k.dest 8 ++ leB k.count 8) := rfl
  unfold Ps.fields K.body K.tail
  dsimp only
  rw [hh]
  split
  · next h =>
    show (L ++ leB k.player 1 ++ leB k.epoch 8 ++ leB k.dest 8 ++ leB k.count 8) ++ leB k.own 8 = _
    simp
  · next h =>
    split
    · next h3 =>
      show (psO.bs ((L ++ leB k.player 1 ++ leB k.epoch 8 ++ leB k.dest 8 ++ leB k.count 8) ++ leB k.first 8 ++ leB k.ins.length 1) (grow k.ins k.ins.length)).2 = _
      rw [grow_same, bs_O]
      simp
    · next h3 =>
      split
      · next h4 =>
        show (psO.bs ((L ++ leB k.player 1 ++ leB k.epoch 8 ++ leB k.dest 8 ++ leB k.count 8) ++ leB k.first 8 ++ leB k.prs.length 1) (grow (flat k.prs) (2 * k.prs.length))).2 = _
        rw [← flat_length, grow_same, bs_O]
        simp
      · next h4 =>
        split
        · next h5 =>
          show (L ++ leB k.player 1 ++ leB k.epoch 8 ++ leB k.dest 8 ++ leB k.count 8) ++ leB k.frame 8 ++ leB k.sum 8 = _
          simp
        · next h5 => simp
theorem tail_length (k : K) (hi : k.ins.length ≤ 32) (hp : k.prs.length ≤ 32) : k.tail.length ≤ 73 := by
  unfold K.tail
  split
  · rw [leB_length]; omega
  split
  · simp only [List.length_append, leB_length]; omega
  split
  · simp only [List.length_append, leB_length, flat_length]; omega
  split
  · simp only [List.length_append, leB_length]; omega
  · simp
theorem pay_length (k : K) (hi : k.ins.length ≤ 32) (hp : k.prs.length ≤ 32) : k.pay.length ≤ 4096 := by
  have := tail_length k hi hp
  unfold K.pay K.body
  simp only [List.length_cons, List.length_append, leB_length]
  omega
theorem K.may.lens {k : K} (h : k.may) : k.ins.length ≤ 32 ∧ k.prs.length ≤ 32 := by
  obtain ⟨_, _, _, _, _, _, _, h, _⟩ := h
  omega
theorem pay_eq {k : K} (h : k.may) : leB k.kind.toNat 1 ++ k.body = k.pay := by
  obtain ⟨h1, h2, _⟩ := h
  unfold K.pay
  rw [leB, leB, Nat.mod_eq_of_lt (by omega)]
  rfl
/-- What is put is taken as the fields that its kind names. -/
theorem pT_pay {k : K} (hw : k.wf) (h : k.may) : pT (fput k.pay) = if k.only.may then (k.only, 0) else (K.zero, 4) := by
  obtain ⟨l1, l2⟩ := h.lens
  obtain ⟨e1, e2, e3⟩ := fn_fput k.pay [] (pay_length k l1 l2)
  rw [List.append_nil] at e1 e2 e3
  unfold pT
  rw [if_neg (by rw [e3]; decide), e2, fput_length (pay_length k l1 l2), if_pos rfl, e1]
  have h1 := h.1
  have h2 := h.2.1
  have hp : parP k.pay = some k.only := by
    show par (UInt8.ofNat k.kind.toNat).toNat k.body = _
    rw [UInt8.toNat_ofNat', Nat.mod_eq_of_lt (by omega)]
    exact par_body hw k.kind.toNat (by omega) (by omega) l1 l2
  exact pTin_some hp
/-- What 'Put' answers. -/
def pPut (k : K) : List UInt8 × Int := if k.may ∧ k.only = k then (fput k.pay, 0) else ([], 4)
end Go.Proofs.YtdgbililgkhjfaaDoor.Pk
