/- What the document's 'May' answers: walked. Conditions: the numbers are what their types bear. -/
import Derived.Test.YtghgefiaijfbgaaRecE
namespace Go.Proofs.Ytghgefiaijfbgaa.Rec
open Go.RowKit Go.Proofs.Ytghgefiaijfbgaa.Crc Go.Proofs.Ytghgefiaijfbgaa.Codec
set_option linter.unusedVariables false
theorem eql_pair {ops : Array Oper} {rest : List Oper} {op : Oper} {a : Act} {w : World} {Q : Exit → Act → World → Prop} (x y : Operand) (p0 p1 q0 q1 : Nat) (v : Bool) (hv : (decide (p0 = q0) && decide (p1 = q1)) = v) (hgd : Region.wanted op (yielded ops a.tmps) = true) (ho : op.op = .binOp .eql 25 x y 25)
    (hx : a.eval x = .agg #[.int .u8 p0, .int .u8 p1]) (hy : a.eval y = .agg #[.int .u8 q0, .int .u8 q1]) (h : wpList Try.prog ops Q rest (a.put op.dst (.bool v)) w) : wpList Try.prog ops Q (op :: rest) a w := by
  unfold wpList
  rw [if_pos hgd]
  refine .inl ?_
  unfold Oper.wp execOp
  simp only [ho, hx, hy, Sem.run_bind, Sem.run_pure, Result.andThen_ok, run_eqGuard_agg (P := Try.prog) w .eql 25 x y #[.int .u8 p0, .int .u8 p1] #[.int .u8 q0, .int .u8 q1] (by kernel_rfl), run_eql_struct, pair_eq 9998 p0 p1 q0 q1 w, hv]
  exact h
theorem ret_bool {a b : Bool} (h : a = b) : Ending.returned (.bool a) = .returned (.bool b) := by rw [h]
def MayB (r : R) : Bool := decide r.may
set_option maxRecDepth 100000 in
set_option maxHeartbeats 1000000 in
theorem may_any (r : R) (w : World) (hr : r.wf) :
    Calls Try.prog 20 #[.agg (rc r)] w fun e w' => e = .returned (.bool (MayB r)) ∧ Below w.heap.size w w' := by
  obtain ⟨kind, frame, own, p0, p1, seg, first, epoch, player⟩ := r
  have h0 : own < 256 := hr.own
  have h1 : p0 < 256 := hr.p0
  have h2 : p1 < 256 := hr.p1
  have h3 : player < 256 := hr.player
  clear hr
  dsimp only [rc]
  obtain ⟨v, hv⟩ : ∃ v, (decide (p0 = 0) && decide (p1 = 0)) = v := ⟨_, rfl⟩
  have HV := Lib.hid hv
  clear hv
  go_enter Try.func20, Try.ntmps20
  go_wp2_with (first | (refine eql_pair (.tmp 30) (.tmp 31) p0 p1 0 0 v HV.out rfl rfl rfl rfl ?_) | (refine eql_pair (.tmp 90) (.tmp 91) p0 p1 0 0 v HV.out rfl rfl rfl rfl ?_))
  all_goals go_ret
  all_goals refine ⟨?_, ?_⟩
  all_goals first | exact (Below.refl _ w).alloc (Nat.le_refl _) _ | exact ((Below.refl _ w).alloc (Nat.le_refl _) _).alloc (by simp) _ | skip
  all_goals refine ret_bool ?_
  all_goals have hv := HV.out
  all_goals clear HV
  all_goals try (simp only [Bool.not_eq_true] at *)
  all_goals rw [Bool.eq_iff_iff]
  all_goals simp only [MayB, R.may, R.right, decide_eq_true_eq, Bool.and_eq_true]
  all_goals simp_all
  all_goals first | omega | (intros; omega) | (rw [← hv]; simp; omega)
end Go.Proofs.Ytghgefiaijfbgaa.Rec
