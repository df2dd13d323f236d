/- Two records held against each other: the law of the comparison. No conditions. -/
import Derived.Test.YtghgefiaijfbgaaRecD
import Derived.ChangeKeysEq
namespace Go.Proofs.Ytghgefiaijfbgaa.Rec
open Go.RowKit Go.Proofs.Ytghgefiaijfbgaa.Crc Go.Proofs.Ytghgefiaijfbgaa.Codec
set_option linter.unusedVariables false
theorem infoIn : (Try.prog.info? 23).map (fun i => (i.zero, i.size, i.bytes)) = some (some (.int .u8 0), 1, 1) := by kernel_rfl
theorem cellsIn : Try.prog.cellsOf 23 = 1 := by kernel_rfl
theorem beq_nat (a b : Nat) : ((a : Int) == (b : Int)) = decide (a = b) := by
  by_cases h : a = b
  · simp [h]
  · have : ¬ (a : Int) = (b : Int) := by omega
    simp [h, this]
theorem pair_eq (d a b c e : Nat) (W : World) :
    (Op.equalIn (d + 2) 25 (.agg #[.int .u8 a, .int .u8 b]) (.agg #[.int .u8 c, .int .u8 e])).run Try.prog W = .ok (decide (a = c) && decide (b = e)) W := by
  obtain ⟨i, hi, _⟩ := info_parts infoIn
  rw [run_equalIn_array W (d + 1) _ _ Try.underlying25 hi, cellsIn]
  have p0 : ∀ (xs : Array Value) (k : Nat) (u : Value), xs[k]? = some u → (part 23 xs k).run Try.prog W = .ok u W := fun xs k u h => by
    simp [part, isAgg, run_underlying Try.underlying23, h]
  have q : ∀ x y : Nat, (Op.equalIn (d + 1) 23 (.int .u8 x) (.int .u8 y)).run Try.prog W = .ok (decide (x = y)) W := fun x y => by
    rw [run_equalIn_int W d 23 .u8 .u8 x y Try.underlying23, beq_nat]
  rw [show List.range 2 = [0, 1] from rfl]
  simp only [Op.eqItems, Sem.run_bind]
  rw [p0 #[.int .u8 a, .int .u8 b] (0 * 1) (.int .u8 a) rfl, Result.andThen_ok, p0 #[.int .u8 c, .int .u8 e] (0 * 1) (.int .u8 c) rfl, Result.andThen_ok, q, Result.andThen_ok]
  by_cases h : a = c
  · rw [decide_eq_true h]
    simp only [Bool.not_true, Bool.false_eq_true, if_false, Sem.run_bind, Bool.true_and]
    rw [p0 #[.int .u8 a, .int .u8 b] (1 * 1) (.int .u8 b) rfl, Result.andThen_ok, p0 #[.int .u8 c, .int .u8 e] (1 * 1) (.int .u8 e) rfl, Result.andThen_ok, q, Result.andThen_ok]
    cases decide (b = e) <;> simp
  · rw [decide_eq_false h]; simp
theorem fields27 : (Try.prog.fieldsOf 27).toList.map (fun f => (f.name, f.type, f.offset)) = [("Kind", 3, 0), ("Frame", 22, 1), ("Own", 23, 2), ("Pair", 25, 3), ("Segment", 22, 5), ("First", 22, 6), ("Epoch", 22, 7), ("Player", 5, 8)] := by kernel_rfl
/-- What of two structs' fields is held against each other, by name, type, and place. -/
def eqFs (d : Nat) (xs ys : Array Value) : List (String × TypeId × Nat) → Sem Bool
  | [] => pure true
  | f :: fs => do
    let a ← part f.2.1 xs f.2.2
    let b ← part f.2.1 ys f.2.2
    let r ← Op.equalIn d f.2.1 a b
    if (!r) = true then pure false else eqFs d xs ys fs
theorem eqFs_eq (d : Nat) (xs ys : Array Value) : ∀ (fs : List Field), (∀ f ∈ fs, f.name ≠ "_") → Op.eqFields d xs ys fs = eqFs d xs ys (fs.map fun f => (f.name, f.type, f.offset))
  | [], _ => rfl
  | f :: fs, h => by
    simp only [Op.eqFields, eqFs, List.map_cons]
    rw [if_pos (h f (List.mem_cons_self ..)), eqFs_eq d xs ys fs (fun g hg => h g (List.mem_cons_of_mem _ hg))]
theorem eqFs_step {d : Nat} {xs ys : Array Value} {n : String} {t : TypeId} {k : Nat} {fs : List (String × TypeId × Nat)} {W : World} {a b : Value} {r : Bool}
    (ha : (part t xs k).run Try.prog W = .ok a W) (hb : (part t ys k).run Try.prog W = .ok b W) (hr : (Op.equalIn d t a b).run Try.prog W = .ok r W) {s : Bool} (h : (eqFs d xs ys fs).run Try.prog W = .ok s W) :
    (eqFs d xs ys ((n, t, k) :: fs)).run Try.prog W = .ok (r && s) W := by
  simp only [eqFs, Sem.run_bind, ha, hb, hr, Result.andThen_ok]
  cases r
  · simp
  · simpa using h
theorem part_int {t : TypeId} {k : IntKind} (hu : Try.prog.underlying t = some (.int k)) (xs : Array Value) (i : Nat) (v : Value) (W : World) (h : xs[i]? = some v) : (part t xs i).run Try.prog W = .ok v W := by
  simp [part, isAgg, run_underlying hu, h]
theorem part_pair (xs : Array Value) (i : Nat) (W : World) : (part 25 xs i).run Try.prog W = .ok (.agg (xs.extract i (i + 2))) W := by
  simp [part, isAgg, run_underlying Try.underlying25]
theorem int_eq (d : Nat) (t : TypeId) (k : IntKind) (hu : Try.prog.underlying t = some (.int k)) (x y : Int) (W : World) : (Op.equalIn (d + 1) t (.int k x) (.int k y)).run Try.prog W = .ok (decide (x = y)) W := by
  rw [run_equalIn_int W d t k k x y hu]; rfl
/-- Two records, field by field. -/
def sameR (a b : R) : Bool := decide (a.kind = b.kind) && (decide ((a.frame : Int) = b.frame) && (decide ((a.own : Int) = b.own) && ((decide (a.p0 = b.p0) && decide (a.p1 = b.p1)) && (decide ((a.seg : Int) = b.seg) && (decide ((a.first : Int) = b.first) && (decide ((a.epoch : Int) = b.epoch) && (decide ((a.player : Int) = b.player) && true)))))))
theorem sameR_eq (a b : R) : sameR a b = true ↔ a = b := by
  obtain ⟨a0, a1, a2, a3, a4, a5, a6, a7, a8⟩ := a
  obtain ⟨b0, b1, b2, b3, b4, b5, b6, b7, b8⟩ := b
  simp only [sameR, R.mk.injEq, Bool.and_eq_true, decide_eq_true_eq, Int.natCast_inj, and_true, and_assoc]
instance : DecidableEq R := fun a b => decidable_of_iff _ (sameR_eq a b)
theorem sameR_iff (a b : R) : sameR a b = decide (a = b) := by
  rw [Bool.eq_iff_iff, sameR_eq, decide_eq_true_eq]
theorem eqFs_rec (d : Nat) (a b : R) (W : World) :
    (eqFs (d + 2) (rc a) (rc b) [("Kind", 3, 0), ("Frame", 22, 1), ("Own", 23, 2), ("Pair", 25, 3), ("Segment", 22, 5), ("First", 22, 6), ("Epoch", 22, 7), ("Player", 5, 8)]).run Try.prog W = .ok (sameR a b) W := by
  unfold sameR
  refine eqFs_step (part_int Try.underlying3 _ _ _ W rfl) (part_int Try.underlying3 _ _ _ W rfl) (int_eq (d + 1) 3 .i64 Try.underlying3 _ _ W) ?_
  refine eqFs_step (part_int Try.underlying22 _ _ _ W rfl) (part_int Try.underlying22 _ _ _ W rfl) (int_eq (d + 1) 22 .u64 Try.underlying22 _ _ W) ?_
  refine eqFs_step (part_int Try.underlying23 _ _ _ W rfl) (part_int Try.underlying23 _ _ _ W rfl) (int_eq (d + 1) 23 .u8 Try.underlying23 _ _ W) ?_
  refine eqFs_step (part_pair _ _ W) (part_pair _ _ W) (pair_eq d a.p0 a.p1 b.p0 b.p1 W) ?_
  refine eqFs_step (part_int Try.underlying22 _ _ _ W rfl) (part_int Try.underlying22 _ _ _ W rfl) (int_eq (d + 1) 22 .u64 Try.underlying22 _ _ W) ?_
  refine eqFs_step (part_int Try.underlying22 _ _ _ W rfl) (part_int Try.underlying22 _ _ _ W rfl) (int_eq (d + 1) 22 .u64 Try.underlying22 _ _ W) ?_
  refine eqFs_step (part_int Try.underlying22 _ _ _ W rfl) (part_int Try.underlying22 _ _ _ W rfl) (int_eq (d + 1) 22 .u64 Try.underlying22 _ _ W) ?_
  refine eqFs_step (part_int Try.underlying5 _ _ _ W rfl) (part_int Try.underlying5 _ _ _ W rfl) (int_eq (d + 1) 5 .u8 Try.underlying5 _ _ W) ?_
  rfl
theorem rec_eq (a b : R) (W : World) : (Op.equalIn 10000 27 (.agg (rc a)) (.agg (rc b))).run Try.prog W = .ok (decide (a = b)) W := by
  have hf := fields27
  have hn : ∀ f ∈ (Try.prog.fieldsOf 27).toList, f.name ≠ "_" := fun f h => by
    have h2 : f.name ∈ (Try.prog.fieldsOf 27).toList.map (fun f => f.name) := List.mem_map_of_mem h
    rw [show (fun f : Field => f.name) = (fun p : String × TypeId × Nat => p.1) ∘ (fun f : Field => (f.name, f.type, f.offset)) from rfl, ← List.map_map, hf] at h2
    intro e
    rw [e] at h2
    revert h2
    decide
  rw [run_equalIn_struct W 9999 27 _ _ Try.underlying27 (by kernel_rfl), eqFs_eq _ _ _ _ hn, hf, eqFs_rec 9997 a b W, sameR_iff]
theorem fields33 : (Try.prog.fieldsOf 33).toList.map (fun f => (f.name, f.type, f.offset)) = [("Kind", 3, 0), ("Frame", 22, 1), ("Own", 23, 2), ("Pair", 25, 3), ("Segment", 22, 5), ("First", 22, 6), ("Epoch", 22, 7), ("Player", 5, 8)] := by kernel_rfl
theorem rrec_eq (a b : R) (W : World) : (Op.equalIn 10000 33 (.agg (rc a)) (.agg (rc b))).run Try.prog W = .ok (decide (a = b)) W := by
  have hf := fields33
  have hn : ∀ f ∈ (Try.prog.fieldsOf 33).toList, f.name ≠ "_" := fun f h => by
    have h2 : f.name ∈ (Try.prog.fieldsOf 33).toList.map (fun f => f.name) := List.mem_map_of_mem h
    rw [show (fun f : Field => f.name) = (fun p : String × TypeId × Nat => p.1) ∘ (fun f : Field => (f.name, f.type, f.offset)) from rfl, ← List.map_map, hf] at h2
    intro e
    rw [e] at h2
    revert h2
    decide
  rw [run_equalIn_struct W 9999 33 _ _ Try.underlying33 (by kernel_rfl), eqFs_eq _ _ _ _ hn, hf, eqFs_rec 9997 a b W, sameR_iff]
theorem neq_rec {ops : Array Oper} {rest : List Oper} {op : Oper} {a : Act} {w : World} {Q : Exit → Act → World → Prop} (x y : Operand) (r s : R) (v : Bool) (hv : decide (r = s) = v) (hgd : Region.wanted op (yielded ops a.tmps) = true) (ho : op.op = .binOp .neq 27 x y 27)
    (hx : a.eval x = .agg (rc r)) (hy : a.eval y = .agg (rc s)) (h : wpList Try.prog ops Q rest (a.put op.dst (.bool (!v))) w) : wpList Try.prog ops Q (op :: rest) a w := by
  unfold wpList
  rw [if_pos hgd]
  refine .inl ?_
  unfold Oper.wp execOp
  simp only [ho, hx, hy, Sem.run_bind, Sem.run_pure, Result.andThen_ok, run_eqGuard_agg (P := Try.prog) w .neq 27 x y (rc r) (rc s) (by kernel_rfl), run_neq_struct, rec_eq, hv]
  exact h
theorem eql_rec {ops : Array Oper} {rest : List Oper} {op : Oper} {a : Act} {w : World} {Q : Exit → Act → World → Prop} (x y : Operand) (r s : R) (v : Bool) (hv : decide (r = s) = v) (hgd : Region.wanted op (yielded ops a.tmps) = true) (ho : op.op = .binOp .eql 27 x y 27)
    (hx : a.eval x = .agg (rc r)) (hy : a.eval y = .agg (rc s)) (h : wpList Try.prog ops Q rest (a.put op.dst (.bool v)) w) : wpList Try.prog ops Q (op :: rest) a w := by
  unfold wpList
  rw [if_pos hgd]
  refine .inl ?_
  unfold Oper.wp execOp
  simp only [ho, hx, hy, Sem.run_bind, Sem.run_pure, Result.andThen_ok, run_eqGuard_agg (P := Try.prog) w .eql 27 x y (rc r) (rc s) (by kernel_rfl), run_eql_struct, rec_eq, hv]
  exact h
theorem eql_rrec {ops : Array Oper} {rest : List Oper} {op : Oper} {a : Act} {w : World} {Q : Exit → Act → World → Prop} (x y : Operand) (r s : R) (v : Bool) (hv : decide (r = s) = v) (hgd : Region.wanted op (yielded ops a.tmps) = true) (ho : op.op = .binOp .eql 33 x y 33)
    (hx : a.eval x = .agg (rc r)) (hy : a.eval y = .agg (rc s)) (h : wpList Try.prog ops Q rest (a.put op.dst (.bool v)) w) : wpList Try.prog ops Q (op :: rest) a w := by
  unfold wpList
  rw [if_pos hgd]
  refine .inl ?_
  unfold Oper.wp execOp
  simp only [ho, hx, hy, Sem.run_bind, Sem.run_pure, Result.andThen_ok, run_eqGuard_agg (P := Try.prog) w .eql 33 x y (rc r) (rc s) (by kernel_rfl), run_eql_struct, rrec_eq, hv]
  exact h
end Go.Proofs.Ytghgefiaijfbgaa.Rec
