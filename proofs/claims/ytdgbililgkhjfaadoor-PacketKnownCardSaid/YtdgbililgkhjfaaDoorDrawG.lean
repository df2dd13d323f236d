/- A region that draws its order and has guarded operations ('&&', '||'), shown once for each operation. No conditions. -/
import Derived.Test.YtdgbililgkhjfaaDoorDraw
import Derived.Laws.Rows
namespace Go.Proofs.YtdgbililgkhjfaaDoor.Draw
set_option linter.unusedVariables false
variable {P : Program} {ops : Array Oper} {Q : Exit → Act → World → Prop} {md : Region.Mode}
/-- No operation waits for a later one. -/
def topoG (md : Region.Mode) (ops : Array Oper) : Bool := (List.range ops.size).all fun i => ((ops[i]?).map fun o => o.after.all fun e => !Region.binds md e || decide (e.on < i)).getD true
theorem topo_allG {listed : Array Bool} (ht : topoG md ops = true) (hs : listed.size = ops.size) (hr : Region.ready md ops listed = []) : ∀ i, i < ops.size → listed.getD i false = true := by
  intro i
  induction i using Nat.strongRecOn with
  | ind i ih =>
    intro hi
    cases hb : listed.getD i false with
    | true => rfl
    | false =>
      have hmem : i ∈ Region.ready md ops listed := by
        unfold Region.ready
        refine List.mem_filter.2 ⟨List.mem_range.2 hi, ?_⟩
        have ho : ops[i]? = some ops[i] := Array.getElem?_eq_getElem hi
        have h1 : listed.getD i true = false := by
          have hl : listed[i]? = some listed[i] := Array.getElem?_eq_getElem (by omega)
          simp [Array.getD_eq_getD_getElem?, hl] at hb ⊢
          exact hb
        rw [h1, ho]
        simp only [Bool.not_false, Bool.true_and, Option.map_some, Option.getD_some, Array.all_eq_true_iff_forall_mem]
        intro e he
        have h2 := (List.all_eq_true.1 ht) i (List.mem_range.2 hi)
        rw [ho] at h2
        simp only [Option.map_some, Option.getD_some, Array.all_eq_true_iff_forall_mem] at h2
        have h3 := h2 e he
        cases hbd : Region.binds md e with
        | false => simp
        | true =>
          rw [hbd] at h3
          have h4 : e.on < i := by simpa using h3
          simp [ih e.on h4 (by omega)]
      rw [hr] at hmem
      cases hmem
/-- What is to be shown of one operation: it runs; or its guard says no. -/
def Goes (P : Program) (ops : Array Oper) (o : Oper) (ρ : Operand → Value) (w : World) (R : World → Value → Prop) : Prop :=
  match o.guard with
  | none => Runs P o ρ w R
  | some (j, b) => ∃ d, ((ops[j]?).bind (·.dst)) = some d ∧ ((ρ (.tmp d) = .bool b ∧ Runs P o ρ w R) ∨ (ρ (.tmp d) = .bool (!b) ∧ R w undef))
theorem Goes.plain {o : Oper} {ρ : Operand → Value} {w : World} {R : World → Value → Prop} (hg : o.guard = none) (h : Runs P o ρ w R) : Goes P ops o ρ w R := by unfold Goes; rw [hg]; exact h
theorem Goes.yes {o : Oper} {ρ : Operand → Value} {w : World} {R : World → Value → Prop} (j : Nat) (b : Bool) (d : Tmp) (hg : o.guard = some (j, b)) (hd : ((ops[j]?).bind (·.dst)) = some d) (hv : ρ (.tmp d) = .bool b) (h : Runs P o ρ w R) : Goes P ops o ρ w R := by
  unfold Goes; rw [hg]; exact ⟨d, hd, .inl ⟨hv, h⟩⟩
theorem Goes.no {o : Oper} {ρ : Operand → Value} {w : World} {R : World → Value → Prop} (j : Nat) (b : Bool) (d : Tmp) (hg : o.guard = some (j, b)) (hd : ((ops[j]?).bind (·.dst)) = some d) (hv : ρ (.tmp d) = .bool (!b)) (h : R w undef) : Goes P ops o ρ w R := by
  unfold Goes; rw [hg]; exact ⟨d, hd, .inr ⟨hv, h⟩⟩
theorem tmp_at {a : Act} {d : Tmp} {v : Value} (h : a.eval (.tmp d) = v) (hv : v ≠ undef) : a.tmps[d]? = some v := by
  have h1 : a.tmps.getD d undef = v := h
  rw [Array.getD_eq_getD_getElem?] at h1
  cases hq : a.tmps[d]? with
  | none => rw [hq] at h1; exact absurd h1.symm hv
  | some u => rw [hq] at h1; exact congrArg some h1
theorem yield_at {a : Act} {j : Nat} {d : Tmp} {b : Bool} (hd : ((ops[j]?).bind (·.dst)) = some d) (h : a.eval (.tmp d) = .bool b) : yielded ops a.tmps j = some b := by
  have h1 := tmp_at h (by intro e; cases e)
  unfold yielded
  rw [hd]
  simp only [Option.bind_some, h1]
/-- A whole row is read. -/
theorem load_row {o : Oper} {ρ : Operand → Value} {w : World} (ty : TypeId) (x : Operand) (ho : o.op = .load ty x) (g : Nat) (hx : ρ x = .pointer (some ⟨g, 0, none⟩)) (t : TypeId) (cs : Array Value) (fr : Nat × Nat) (d : TypeDesc) (hg : w.heap[g]? = some (.cells cs t fr))
    (hu : P.underlying ty = some d) (hd : (match d with | .struct _ | .array _ _ => true | _ => false) = true) (hi : (P.info? ty).map (·.size) = some cs.size) : (execOp ρ o).run P w = .ok (.value (.agg cs)) w := by
  unfold execOp
  simp only [ho, hx, Instr.loadAt, Instr.sureAddr, Sem.run_bind, Sem.run_pure, Result.andThen_ok, run_loadVar_row w g t ty cs fr d hg hu hd hi]
/-- A region that draws its order, each operation shown once, guarded or not. J: what holds of the world all the while; Ext: what one operation may do to it; F i: what operation i yields, a fact that stays true. -/
theorem wp_region_guards {id : Nat} {l : List Oper} {a : Act} {w : World} (J : World → Prop) (Ext : World → World → Prop) (F : Nat → World → Value → Prop)
    (hm : P.follows .mixedOrders = true) (ht : topoG .any l.toArray = true) (hn : (dsts l.toArray).Nodup) (hsz : (dsts l.toArray).all (· < a.tmps.size) = true)
    (hmono : ∀ i w w' v, Ext w w' → F i w v → F i w' v) (hJ : J w.drew)
    (hop : AllOps (fun i o => ∀ (ρ : Operand → Value) (w' : World), J w' → (∀ v, ρ (.const v) = v) → (∀ f, ρ (.func f) = .func (.func f) #[] #[]) → Known .any l.toArray F a.tmps ρ w' o → Goes P l.toArray o ρ w' fun w2 v => J w2 ∧ Ext w' w2 ∧ F i w2 v) 0 l)
    (hfin : ∀ a' w', J w' → a'.defers = a.defers → a'.tmps.size = a.tmps.size → (∀ i o d, l.toArray[i]? = some o → o.dst = some d → F i w' (a'.tmps.getD d undef)) → (∀ t, (dsts l.toArray).contains t = false → a'.tmps.getD t undef = a.tmps.getD t undef) → Q .normal a' w') :
    (Code.region id l.toArray true).wp P Q a w := by
  refine wp_region_any hm (wpAny_inv (Inv .any l.toArray J F a) ?_ ?_ _ _ _ _ (by simp) ?_ ?_)
  · intro listed a1 w1 i hs hinv hir
    obtain ⟨o, ho, h2, h3⟩ := ready_spec hir
    have hgo := AllOps.get l 0 hop i o (by rw [← List.getElem?_toArray]; exact ho)
    rw [Nat.zero_add] at hgo
    have hk : Known .any l.toArray F a.tmps a1.eval w1 o := by
      refine ⟨fun e he hb oj hj d hd => hinv.fact e.on oj d (h3 e (by simpa using he) hb) hj hd, fun t htt => ?_⟩
      exact hinv.rest t htt
    have hgoes := hgo a1.eval w1 hinv.world (fun _ => rfl) (fun _ => rfl) hk
    have hput : ∀ w2 v, (J w2 ∧ Ext w1 w2 ∧ F i w2 v) → Inv .any l.toArray J F a (listed.setIfInBounds i true) (a1.put o.dst v) w2 := by
      rintro w2 v ⟨hj2, he2, hf2⟩
      have hli : i < listed.size := by rw [hs]; exact (Array.getElem?_eq_some_iff.1 ho).1
      refine ⟨hj2, put_defers.trans hinv.defers, put_size.trans hinv.size, ?_, ?_⟩
      · intro j oj d hlj hoj hdj
        by_cases hij : i = j
        · subst hij
          have : o = oj := Option.some.inj (ho.symm.trans hoj)
          subst this
          rw [hdj, put_at (by
            have h5 := List.all_eq_true.1 hsz d (by rw [← List.contains_iff_mem]; exact mem_dsts ho hdj)
            rw [hinv.size]
            simpa using h5)]
          exact hf2
        · have hne : o.dst ≠ some d := fun e => hij (nodup_dst hn i j o oj d (by rw [← List.getElem?_toArray]; exact ho) (by rw [← List.getElem?_toArray]; exact hoj) e hdj)
          rw [put_else hne]
          refine hmono j _ _ _ he2 (hinv.fact j oj d ?_ hoj hdj)
          rw [Array.getD_eq_getD_getElem?, Array.getElem?_setIfInBounds, if_neg hij, ← Array.getD_eq_getD_getElem?] at hlj
          exact hlj
      · intro t htt
        have hne : o.dst ≠ some t := fun e => by rw [mem_dsts ho e] at htt; cases htt
        rw [put_else hne]
        exact hinv.rest t htt
    unfold wpOp
    rw [ho]
    unfold Goes at hgoes
    cases hg : o.guard with
    | none =>
      rw [hg] at hgoes
      have hw : Region.wanted o (yielded l.toArray a1.tmps) = true := by unfold Region.wanted; rw [hg]
      simp only [hw, if_true]
      exact .inl (Runs.wp hgoes hput)
    | some jb =>
      obtain ⟨j, b⟩ := jb
      rw [hg] at hgoes
      obtain ⟨d, hd, hc⟩ := hgoes
      rcases hc with ⟨hv, hr⟩ | ⟨hv, hr⟩
      · have hw : Region.wanted o (yielded l.toArray a1.tmps) = true := by
          unfold Region.wanted; rw [hg]; simp [yield_at hd hv]
        simp only [hw, if_true]
        exact .inl (Runs.wp hr hput)
      · have hw : Region.wanted o (yielded l.toArray a1.tmps) = false := by
          unfold Region.wanted; rw [hg]; simp [yield_at hd hv]
        simp only [hw, Bool.false_eq_true, if_false]
        exact hput _ _ hr
  · intro listed a1 w1 hs hinv hr
    have hall := topo_allG ht hs hr
    exact hfin a1 w1 hinv.world hinv.defers hinv.size (fun i o d ho hd => hinv.fact i o d (hall i (Array.getElem?_eq_some_iff.1 ho).1) ho hd) hinv.rest
  · unfold unl
    refine Nat.le_trans (List.length_filter_le _ _) ?_
    simp
  · refine ⟨hJ, rfl, rfl, ?_, fun _ _ => rfl⟩
    intro i o d hl
    rw [Array.getD_eq_getD_getElem?, Array.getElem?_replicate] at hl
    split at hl <;> cases hl
end Go.Proofs.YtdgbililgkhjfaaDoor.Draw
