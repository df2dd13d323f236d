/- A packet as a value, and whether it may be: walked. Conditions: the lists lie in memory. -/
import Derived.Test.YtdgbililgkhjfaaDoorPkA
import Derived.Laws.EntriesVeiled
namespace Go.Proofs.YtdgbililgkhjfaaDoor.Pk
open Go.RowKit Go.Proofs.YtdgbililgkhjfaaDoor.Crc Go.Proofs.YtdgbililgkhjfaaDoor.Codec Go.Proofs.YtdgbililgkhjfaaDoor.CrcWalk
set_option linter.unusedVariables false
/-- A packet's cells. -/
def pc (k : K) (vi vp : Value) : Array Value := #[.int .i64 k.kind, .int .u8 k.player, .int .u64 k.epoch, .int .u64 k.dest, .int .u64 k.count, .int .u64 k.own, .int .u64 k.first, vi, vp, .int .u64 k.frame, .int .u64 k.sum]
/-- The numbers' part of what may be. -/
def mayN (kind : Int) (player epoch dest count own first n : Nat) : Prop :=
  1 ≤ kind ∧ kind ≤ 5 ∧ player ≤ 1 ∧ epoch ≠ 0 ∧ (dest ≠ 0 ∨ kind = 1) ∧ (kind ≤ 2 → count ≤ own) ∧ (kind = 4 → n ≠ 0) ∧ n ≤ 32 ∧ first + n ≤ 18446744073709551615
instance (kind : Int) (player epoch dest count own first n : Nat) : Decidable (mayN kind player epoch dest count own first n) := by unfold mayN; infer_instance
theorem bad1_iff (l : List UInt8) : l.any bad1 = false ↔ ∀ i ∈ l, i.toNat < 64 := by
  simp [bad1]
theorem bad2_iff (l : List (UInt8 × UInt8)) : l.any bad2 = false ↔ ∀ p ∈ l, p.1.toNat < 64 ∧ p.2.toNat < 64 := by
  simp [bad2, bad1]
theorem may_iff (k : K) : k.may ↔ mayN k.kind k.player k.epoch k.dest k.count k.own k.first (k.ins.length + k.prs.length) ∧ k.ins.any bad1 = false ∧ k.prs.any bad2 = false := by
  unfold K.may mayN
  rw [bad1_iff, bad2_iff]
  constructor
  · rintro ⟨a, b, c, d, e, f, g, h, i, j, l⟩; exact ⟨⟨a, b, c, d, e, f, g, h, i⟩, j, l⟩
  · rintro ⟨⟨a, b, c, d, e, f, g, h, i⟩, j, l⟩; exact ⟨a, b, c, d, e, f, g, h, i, j, l⟩
def MayB (k : K) : Bool := decide k.may
theorem ret_bool {a b : Bool} (h : a = b) : Ending.returned (.bool a) = .returned (.bool b) := by rw [h]
set_option maxRecDepth 100000 in
set_option maxHeartbeats 4000000 in
theorem may_any (k : K) (vi vp : Value) (w : World) (hk : k.wf) (hi : Ins w vi k.ins) (hp : Prs w vp k.prs) :
    Calls Tryd.prog 55 #[.agg (pc k vi vp)] w fun e w' => e = .returned (.bool (MayB k)) ∧ Below w.heap.size w w' := by
  have hb : MayB k = decide (mayN k.kind k.player k.epoch k.dest k.count k.own k.first (k.ins.length + k.prs.length) ∧ k.ins.any bad1 = false ∧ k.prs.any bad2 = false) := decide_eq_decide.2 (may_iff k)
  have H1 := Lib.hid (fun W (h : Below w.heap.size w W) => contains1 vi k.ins W (hi.below h))
  have H2 := Lib.hid (fun f W (h : Below w.heap.size w W) hf => contains2 vp k.prs f W (hp.below h) hf)
  obtain ⟨bi, ci, rfl, li, hi1⟩ := hi
  obtain ⟨bp, cp, rfl, lp, hp1⟩ := hp
  clear hi1 hp1
  have h0 := hk.player
  have h1 := hk.epoch
  have h2 := hk.dest
  have h3 := hk.count
  have h4 := hk.own
  have h5 := hk.first
  obtain ⟨k0, k1⟩ := hk.kind
  clear hk
  rw [hb]
  obtain ⟨kind, player, epoch, dest, count, own, first, ins, prs, frame, sum⟩ := k
  dsimp only [pc] at *
  clear hb
  generalize ins.any bad1 = B1 at *
  generalize prs.any bad2 = B2 at *
  generalize ins.length = n1 at *
  generalize prs.length = n2 at *
  generalize hX : decide (mayN kind player epoch dest count own first (n1 + n2) ∧ B1 = false ∧ B2 = false) = X
  have HX := Lib.hid hX
  clear hX
  go_enter Tryd.func55, Tryd.ntmps55
  go_wp2_with fail
  all_goals first
    | (go_ret
       refine ⟨ret_bool ?_, ((Below.refl _ w).alloc (Nat.le_refl _) _).alloc (by simp) _⟩
       rw [← HX.out]
       refine (decide_eq_false ?_).symm
       rintro ⟨hm, -, -⟩
       unfold mayN at hm
       simp only [beq_iff_eq, beq_eq_false_iff_ne, ne_eq, bne_iff_ne, bne_eq_false_iff_eq] at *
       omega)
    | (refine (H1.out _ (((Below.refl _ w).alloc (Nat.le_refl _) _).alloc (by simp) _)).mono ?_
       rintro e w' ⟨rfl, rfl⟩
       cases B1 with
       | true =>
         go_wp2
         go_ret
         refine ⟨ret_bool ?_, ((Below.refl _ w).alloc (Nat.le_refl _) _).alloc (by simp) _⟩
         rw [← HX.out]
         exact (decide_eq_false (by rintro ⟨-, hm, -⟩; cases hm)).symm
       | false =>
         go_wp2_with fail
         refine (H2.out _ _ (((Below.refl _ w).alloc (Nat.le_refl _) _).alloc (by simp) _) (by simp)).mono ?_
         rintro e w1 ⟨rfl, hb1⟩
         have hB : Below w.heap.size w w1 := (((Below.refl _ w).alloc (Nat.le_refl _) _).alloc (by simp) _).trans (hb1.mono (by simp; omega))
         clear hb1
         cases B2 with
         | true =>
           go_wp2
           go_ret
           refine ⟨ret_bool ?_, hB⟩
           rw [← HX.out]
           exact (decide_eq_false (by rintro ⟨-, -, hm⟩; cases hm)).symm
         | false =>
           go_wp2
           go_ret
           refine ⟨ret_bool ?_, hB⟩
           rw [← HX.out]
           refine (decide_eq_true ?_).symm
           refine ⟨?_, by first | rfl | trivial, by first | rfl | trivial⟩
           unfold mayN
           simp only [beq_eq_false_iff_ne, ne_eq, bne_eq_false_iff_eq] at *
           omega)
end Go.Proofs.YtdgbililgkhjfaaDoor.Pk
