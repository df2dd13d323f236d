/- What the document's 'May' answers: walked. Conditions: the numbers are what their types bear; the lists lie in memory. -/
import Derived.Test.YtdgbililgkhjfaaDoorPkD1
import Derived.Test.YtdgbililgkhjfaaDoorPkV0
import Derived.Deep.DeepCutAuto
namespace Go.Proofs.YtdgbililgkhjfaaDoor.Pk
open Go.RowKit Go.Proofs.YtdgbililgkhjfaaDoor.Crc Go.Proofs.YtdgbililgkhjfaaDoor.Codec Go.Proofs.YtdgbililgkhjfaaDoor.Frame
set_option linter.unusedVariables false
set_option linter.unusedSimpArgs false
/-- The document's tests that hang on the kind. -/
def kindB (kind : Int) (dest count own first n m : Nat) (F S : Bool) : Prop :=
  (kind = 1 ∧ count ≤ own ∧ F = true ∧ S = true) ∨ (kind = 2 ∧ 0 < dest ∧ count ≤ own ∧ F = true ∧ S = true) ∨ (kind = 3 ∧ 0 < dest ∧ own = 0 ∧ m = 0 ∧ first + n ≤ 18446744073709551615 ∧ S = true) ∨
  (kind = 4 ∧ 0 < dest ∧ own = 0 ∧ n = 0 ∧ 0 < m ∧ first + m ≤ 18446744073709551615 ∧ S = true) ∨ (kind = 5 ∧ 0 < dest ∧ own = 0 ∧ F = true)
instance (kind : Int) (dest count own first n m : Nat) (F S : Bool) : Decidable (kindB kind dest count own first n m F S) := by unfold kindB; infer_instance
def zeroF (first n m : Nat) : Bool := decide (first = 0 ∧ n = 0 ∧ m = 0)
def zeroS (frame sum : Nat) : Bool := decide (frame = 0 ∧ sum = 0)
theorem zeroF_eq (a b c : Nat) : zeroF a b c = ((a : Int) == 0 && ((b : Int) == 0 && (c : Int) == 0)) := by
  unfold zeroF
  rw [Bool.eq_iff_iff]
  simp [Bool.and_eq_true, beq_iff_eq]
theorem zeroS_eq (a b : Nat) : zeroS a b = ((a : Int) == 0 && (b : Int) == 0) := by
  unfold zeroS
  rw [Bool.eq_iff_iff]
  simp [Bool.and_eq_true, beq_iff_eq]
def headB (player epoch n m : Nat) : Prop := player ≤ 1 ∧ epoch ≠ 0 ∧ n ≤ 32 ∧ m ≤ 32
instance (a b c d : Nat) : Decidable (headB a b c d) := by unfold headB; infer_instance
/-- What the document asks. -/
def docMay (k : K) : Bool := decide (headB k.player k.epoch k.ins.length k.prs.length) && ((!(k.ins.any bad1) && !(k.prs.any bad2)) && decide (kindB k.kind k.dest k.count k.own k.first k.ins.length k.prs.length (zeroF k.first k.ins.length k.prs.length) (zeroS k.frame k.sum)))
set_option maxRecDepth 100000 in
set_option maxHeartbeats 8000000 in
theorem rmay_any (k : K) (vi vp : Value) (w : World) (hk : k.wf) (hi : Ins w vi k.ins) (hp : Prs w vp k.prs) :
    Calls Tryd.prog 60 #[.agg (pc k vi vp)] w fun r w' => r = .returned (.bool (docMay k)) ∧ Below w.heap.size w w' := by
  have HL := Lib.hid (fun W (h : Below w.heap.size w W) => legal2_any k vi vp W (hi.below h) (hp.below h))
  obtain ⟨bi, ci, rfl, li, hi1⟩ := hi
  obtain ⟨bp, cp, rfl, lp, hp1⟩ := hp
  clear hi1 hp1
  have h0 := hk.player
  have h1 := hk.epoch
  have h2 := hk.dest
  have h3 := hk.count
  have h4 := hk.own
  have h5 := hk.first
  have h6 := hk.frame
  have h7 := hk.sum
  obtain ⟨k0, k1⟩ := hk.kind
  clear hk
  have HR := Lib.hid (fun n W (hn : n ≤ 1000000) => room_any k.first n W h5 hn)
  obtain ⟨kind, player, epoch, dest, count, own, first, ins, prs, frame, sum⟩ := k
  dsimp only [pc, docMay] at *
  generalize ins.any bad1 = B1 at *
  generalize prs.any bad2 = B2 at *
  generalize ins.length = n at *
  generalize prs.length = m at *
  generalize (!B1 && !B2) = LG at *
  obtain ⟨X, hX⟩ : ∃ X, X = (decide (headB player epoch n m) && (LG && decide (kindB kind dest count own first n m (zeroF first n m) (zeroS frame sum)))) := ⟨_, rfl⟩
  rw [← hX]
  have HX := Lib.hid hX
  clear hX
  have hbel : Below w.heap.size w (w.alloc (.cells #[.int .i64 kind, .int .u8 player, .int .u64 epoch, .int .u64 dest, .int .u64 count, .int .u64 own, .int .u64 first, .slice bi n ci, .slice bp m cp, .int .u64 frame, .int .u64 sum] 34)) := (Below.refl _ w).alloc (Nat.le_refl _) _
  have HBEL := Lib.hid hbel
  clear hbel
  go_enter Tryd.func60, Tryd.ntmps60
  go_wp2_with fail
  all_goals first
    | (go_ret
       refine ⟨ret_bool ?_, (Below.refl _ w).alloc (Nat.le_refl _) _⟩
       rw [HX.out]
       refine (Bool.and_eq_false_imp.2 fun hh => ?_).symm
       rw [decide_eq_true_iff] at hh
       exfalso
       unfold headB at hh
       try simp only [beq_iff_eq, beq_eq_false_iff_ne, ne_eq, bne_iff_ne, bne_eq_false_iff_eq] at *
       omega)
    | skip
  refine (HL.out _ HBEL.out).mono ?_
  rintro e w1 ⟨rfl, hb⟩
  have hB : Below w.heap.size w w1 := HBEL.out.trans (hb.mono (by simp))
  have hbk : Blk w1 w.heap.size #[.int .i64 kind, .int .u8 player, .int .u64 epoch, .int .u64 dest, .int .u64 count, .int .u64 own, .int .u64 first, .slice bi n ci, .slice bp m cp, .int .u64 frame, .int .u64 sum] 34 := (hb.block _ (by simp)).trans (heap_alloc_new w _)
  have c0 : w1.cell? ⟨w.heap.size, 0, none⟩ = some (.int .i64 kind) := hbk.cell _ rfl
  have c3 : w1.cell? ⟨w.heap.size, 3, none⟩ = some (.int .u64 dest) := hbk.cell _ rfl
  have c4 : w1.cell? ⟨w.heap.size, 4, none⟩ = some (.int .u64 count) := hbk.cell _ rfl
  have c5 : w1.cell? ⟨w.heap.size, 5, none⟩ = some (.int .u64 own) := hbk.cell _ rfl
  have c6 : w1.cell? ⟨w.heap.size, 6, none⟩ = some (.int .u64 first) := hbk.cell _ rfl
  have c7 : w1.cell? ⟨w.heap.size, 7, none⟩ = some (.slice bi n ci) := hbk.cell _ rfl
  have c8 : w1.cell? ⟨w.heap.size, 8, none⟩ = some (.slice bp m cp) := hbk.cell _ rfl
  have c9 : w1.cell? ⟨w.heap.size, 9, none⟩ = some (.int .u64 frame) := hbk.cell _ rfl
  have c10 : w1.cell? ⟨w.heap.size, 10, none⟩ = some (.int .u64 sum) := hbk.cell _ rfl
  have hhead : headB player epoch n m := by
    unfold headB
    try simp only [beq_iff_eq, beq_eq_false_iff_ne, ne_eq, bne_iff_ne, bne_eq_false_iff_eq] at *
    omega
  have hn32 : n ≤ 32 := hhead.2.2.1
  have hm32 : m ≤ 32 := hhead.2.2.2
  have HH := Lib.hid hhead
  have HB := Lib.hid hB
  clear hb hB hbk hhead
  cases LG with
  | false =>
    go_wp2
    go_ret
    exact ⟨ret_bool (by rw [HX.out]; simp), HB.out⟩
  | true =>
    go_upto_region 3 with fail
    all_goals first | (exfalso; (try simp only [beq_iff_eq] at *); omega) | skip
    obtain ⟨F0, hF0⟩ : ∃ F0, ((first : Int) == 0) = F0 := ⟨_, rfl⟩
    obtain ⟨N0, hN0⟩ : ∃ N0, ((n : Int) == 0) = N0 := ⟨_, rfl⟩
    obtain ⟨M0, hM0⟩ : ∃ M0, ((m : Int) == 0) = M0 := ⟨_, rfl⟩
    obtain ⟨R0, hR0⟩ : ∃ R0, ((frame : Int) == 0) = R0 := ⟨_, rfl⟩
    obtain ⟨S0, hS0⟩ : ∃ S0, ((sum : Int) == 0) = S0 := ⟨_, rfl⟩
    have zF : zeroF first n m = (F0 && (N0 && M0)) := by
      rw [← hF0, ← hN0, ← hM0]
      exact zeroF_eq first n m
    have zS : zeroS frame sum = (R0 && S0) := by
      rw [← hR0, ← hS0]
      exact zeroS_eq frame sum
    obtain ⟨ZF, hZF⟩ : ∃ ZF, ZF = zeroF first n m := ⟨_, rfl⟩
    obtain ⟨ZS, hZS⟩ : ∃ ZS, ZS = zeroS frame sum := ⟨_, rfl⟩
    rw [← hZF] at zF
    rw [← hZS] at zS
    have HXX := Lib.hid (show X = (decide (headB player epoch n m) && (true && decide (kindB kind dest count own first n m ZF ZS))) by rw [hZF, hZS]; exact HX.out)
    clear hZF hZS HX
    have HzF := Lib.hid zF
    have HzS := Lib.hid zS
    clear zF zS
    go_cut [3] (fun v wx => v = .bool ZF ∧ w1 = wx)
    case first =>
      go_wp2_with fail
      all_goals
        go_meet
        refine ⟨?_, rfl⟩
        rw [HzF.out]
        first | rfl | simp_all
    case rest =>
    obtain ⟨rfl, rfl⟩ := hcut
    go_upto_region 4 with fail
    go_cut [4] (fun v wx => v = .bool ZS ∧ w1 = wx)
    case first =>
      go_wp2_with fail
      all_goals
        go_meet
        refine ⟨?_, rfl⟩
        rw [HzS.out]
        first | rfl | simp_all
    case rest =>
    obtain ⟨rfl, rfl⟩ := hcut
    clear HzF HzS hF0 hN0 hM0 hR0 hS0 HL HBEL c9 c10
    have HRf := Lib.hid (HR.out n w1 (by omega))
    have HRm := Lib.hid (HR.out m w1 (by omega))
    obtain ⟨RN, hRN⟩ : ∃ RN, RN = decide (first + n ≤ 18446744073709551615) := ⟨_, rfl⟩
    obtain ⟨RM, hRM⟩ : ∃ RM, RM = decide (first + m ≤ 18446744073709551615) := ⟨_, rfl⟩
    rw [← hRN] at HRf
    rw [← hRM] at HRm
    have HRN := Lib.hid hRN
    have HRM := Lib.hid hRM
    clear HR hRN hRM
    go_wp2_with (first | (go_at_call 100; refine HRf.out.mono ?_; rintro e w2 ⟨rfl, rfl⟩) | (go_at_call 100; refine HRm.out.mono ?_; rintro e w2 ⟨rfl, rfl⟩))
    all_goals
      go_ret
      refine ⟨ret_bool ?_, HB.out⟩
      have hx := HXX.out
      have h1 := HRN.out
      have h2 := HRM.out
      rw [decide_eq_true HH.out, Bool.true_and, Bool.true_and] at hx
      rw [hx]
      clear HXX HH HB hx c0 c3 c4 c5 c6 c7 c8
      (try simp only [beq_iff_eq, beq_eq_false_iff_ne, ne_eq] at *)
      rw [Bool.eq_iff_iff]
      simp only [decide_eq_true_iff, kindB]
      (try cases ZF) <;> (try cases ZS) <;> (try cases RN) <;> (try cases RM) <;> (try simp at h1) <;> (try simp at h2) <;> (try simp) <;> (first | contradiction | omega)
end Go.Proofs.YtdgbililgkhjfaaDoor.Pk
