/- What 'Same' answers, two packets: walked. Conditions: the lists lie in memory. -/
import Derived.Test.YtdgbililgkhjfaaDoorPkQ
namespace Go.Proofs.YtdgbililgkhjfaaDoor.Pk
open Go.RowKit Go.Proofs.YtdgbililgkhjfaaDoor.Crc Go.Proofs.YtdgbililgkhjfaaDoor.Codec
set_option linter.unusedVariables false
instance : DecidableEq K := fun a b =>
  if h : a.kind = b.kind ∧ a.player = b.player ∧ a.epoch = b.epoch ∧ a.dest = b.dest ∧ a.count = b.count ∧ a.own = b.own ∧ a.first = b.first ∧ a.ins = b.ins ∧ a.prs = b.prs ∧ a.frame = b.frame ∧ a.sum = b.sum then
    isTrue (K.ext' h.1 h.2.1 h.2.2.1 h.2.2.2.1 h.2.2.2.2.1 h.2.2.2.2.2.1 h.2.2.2.2.2.2.1 h.2.2.2.2.2.2.2.1 h.2.2.2.2.2.2.2.2.1 h.2.2.2.2.2.2.2.2.2.1 h.2.2.2.2.2.2.2.2.2.2)
  else isFalse fun e => h (by subst e; exact ⟨rfl, rfl, rfl, rfl, rfl, rfl, rfl, rfl, rfl, rfl, rfl⟩)
/-- Two packets are the same. -/
def sameN (a b : K) : Bool := decide (a.kind = b.kind ∧ a.player = b.player ∧ a.epoch = b.epoch ∧ a.dest = b.dest ∧ a.count = b.count ∧ a.own = b.own ∧ a.first = b.first ∧ a.frame = b.frame ∧ a.sum = b.sum)
theorem same_eq (a b : K) : decide (a = b) = (sameN a b && decide (a.ins = b.ins) && decide (a.prs = b.prs)) := by
  unfold sameN
  rw [← Bool.decide_and, ← Bool.decide_and]
  refine decide_eq_decide.2 ⟨fun e => by subst e; simp, fun h => ?_⟩
  obtain ⟨⟨⟨h0, h1, h2, h3, h4, h5, h6, h7, h8⟩, h9⟩, h10⟩ := h
  exact K.ext' h0 h1 h2 h3 h4 h5 h6 h9 h10 h7 h8
set_option maxRecDepth 100000 in
set_option maxHeartbeats 8000000 in
theorem same_any (a b : K) (vi vp wi wp : Value) (w : World) (hi : Ins w vi a.ins) (hp : Prs w vp a.prs) (hi' : Ins w wi b.ins) (hp' : Prs w wp b.prs) :
    Calls Tryd.prog 20 #[.agg (pc a vi vp), .agg (pc b wi wp)] w fun e w' => e = .returned (.bool (decide (a = b))) ∧ Below w.heap.size w w' := by
  have H1 := Lib.hid (fun W (h : Below w.heap.size w W) => equal1 vi wi a.ins b.ins W (hi.below h) (hi'.below h))
  have H2 := Lib.hid (fun W (h : Below w.heap.size w W) => equal2 vp wp a.prs b.prs W (hp.below h) (hp'.below h))
  rw [same_eq]
  generalize decide (a.ins = b.ins) = B1 at *
  generalize decide (a.prs = b.prs) = B2 at *
  obtain ⟨kind, player, epoch, dest, count, own, first, ins, prs, frame, sum⟩ := a
  obtain ⟨kind', player', epoch', dest', count', own', first', ins', prs', frame', sum'⟩ := b
  dsimp only [pc, sameN] at *
  clear hi hp hi' hp'
  generalize hX : (decide (kind = kind' ∧ player = player' ∧ epoch = epoch' ∧ dest = dest' ∧ count = count' ∧ own = own' ∧ first = first' ∧ frame = frame' ∧ sum = sum') && B1 && B2) = X
  have HX := Lib.hid hX
  clear hX
  go_enter Tryd.func20, Tryd.ntmps20
  go_wp2_with fail
  all_goals first
    | (go_ret
       refine ⟨ret_bool ?_, ((Below.refl _ w).alloc (Nat.le_refl _) _).alloc (by simp) _⟩
       rw [← HX.out, Bool.and_assoc]
       refine (Bool.and_eq_false_imp.2 fun h => ?_).symm
       rw [decide_eq_true_iff] at h
       exfalso
       try simp only [beq_iff_eq, beq_eq_false_iff_ne, ne_eq, bne_iff_ne, bne_eq_false_iff_eq] at *
       omega)
    | (refine (H1.out _ (((Below.refl _ w).alloc (Nat.le_refl _) _).alloc (by simp) _)).mono ?_
       rintro e w1 ⟨rfl, hb1⟩
       have hB : Below w.heap.size w w1 := (((Below.refl _ w).alloc (Nat.le_refl _) _).alloc (by simp) _).trans (hb1.mono (by simp; omega))
       cases B1 with
       | false =>
         clear hb1
         go_wp2
         go_ret
         refine ⟨ret_bool ?_, hB⟩
         rw [← HX.out]
         simp
       | true =>
         have c8 : w1.cell? ⟨w.heap.size, 8, none⟩ = some vp := (hb1.cell (p := ⟨w.heap.size, 8, none⟩) (by simp; omega)).trans (by simp)
         have c9 : w1.cell? ⟨w.heap.size + 1, 8, none⟩ = some wp := (hb1.cell (p := ⟨w.heap.size + 1, 8, none⟩) (by simp)).trans (by simp)
         clear hb1
         go_wp2_with fail
         refine (H2.out _ hB).mono ?_
         rintro e w2 ⟨rfl, hb2⟩
         have hB2 := hB.trans (hb2.mono hB.size)
         clear hb2
         go_wp2
         go_ret
         refine ⟨ret_bool ?_, hB2⟩
         rw [← HX.out, decide_eq_true (by refine ⟨?_, ?_, ?_, ?_, ?_, ?_, ?_, ?_, ?_⟩ <;> omega)]
         simp)
end Go.Proofs.YtdgbililgkhjfaaDoor.Pk
