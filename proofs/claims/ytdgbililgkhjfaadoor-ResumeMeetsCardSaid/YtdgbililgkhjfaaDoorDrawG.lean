/- A region that draws its order and has guarded operations ('&&', '||'), shown once for each operation. No conditions. Behind a region that draws its order: the frame written out. No conditions. A region that draws its order, whose last operations stand in one order behind all others: the others shown once each. No conditions. -/
import Derived.Test.YtdgbililgkhjfaaDoorDraw
import Derived.Laws.Rows
namespace Go.Proofs.YtdgbililgkhjfaaDoor.Draw
set_option linter.unusedVariables false
variable {P : Program} {ops : Array Oper} {Q : Exit → Act → World → Prop} {md : Region.Mode}
/-- No operation waits for a later one. -/
def topoG (md : Region.Mode) (ops : Array Oper) : Bool := (List.range ops.size).all fun i => ((ops[i]?).map fun o => o.after.all fun e => !Region.binds md e || decide (e.on < i)).getD true
theorem topo_allG {listed : Array Bool} (ht : topoG md ops = true) (hs : listed.size = ops.size) (hr : Region.ready md ops listed = []) : ∀ i, i < ops.size → listed.getD i false = true := by
  intro i
  induction i using Nat.strongRecOn with
  | ind i ih =>
    intro hi
    cases hb : listed.getD i false with
    | true => rfl
    | false =>
      have hmem : i ∈ Region.ready md ops listed := by
        unfold Region.ready
        refine List.mem_filter.2 ⟨List.mem_range.2 hi, ?_⟩
        have ho : ops[i]? = some ops[i] := Array.getElem?_eq_getElem hi
        have h1 : listed.getD i true = false := by
          have hl : listed[i]? = some listed[i] := Array.getElem?_eq_getElem (by omega)
          simp [Array.getD_eq_getD_getElem?, hl] at hb ⊢
          exact hb
        rw [h1, ho]
        simp only [Bool.not_false, Bool.true_and, Option.map_some, Option.getD_some, Array.all_eq_true_iff_forall_mem]
        intro e he
        have h2 := (List.all_eq_true.1 ht) i (List.mem_range.2 hi)
        rw [ho] at h2
        simp only [Option.map_some, Option.getD_some, Array.all_eq_true_iff_forall_mem] at h2
        have h3 := h2 e he
        cases hbd : Region.binds md e with
        | false => simp
        | true =>
          rw [hbd] at h3
          have h4 : e.on < i := by simpa using h3
          simp [ih e.on h4 (by omega)]
      rw [hr] at hmem
      cases hmem
/-- What is to be shown of one operation: it runs; or its guard says no. -/
def Goes (P : Program) (ops : Array Oper) (o : Oper) (ρ : Operand → Value) (w : World) (R : World → Value → Prop) : Prop :=
  match o.guard with
  | none => Runs P o ρ w R
  | some (j, b) => ∃ d, ((ops[j]?).bind (·.dst)) = some d ∧ ((ρ (.tmp d) = .bool b ∧ Runs P o ρ w R) ∨ (ρ (.tmp d) = .bool (!b) ∧ R w undef))
theorem Goes.plain {o : Oper} {ρ : Operand → Value} {w : World} {R : World → Value → Prop} (hg : o.guard = none) (h : Runs P o ρ w R) : Goes P ops o ρ w R := by unfold Goes; rw [hg]; exact h
theorem Goes.yes {o : Oper} {ρ : Operand → Value} {w : World} {R : World → Value → Prop} (j : Nat) (b : Bool) (d : Tmp) (hg : o.guard = some (j, b)) (hd : ((ops[j]?).bind (·.dst)) = some d) (hv : ρ (.tmp d) = .bool b) (h : Runs P o ρ w R) : Goes P ops o ρ w R := by
  unfold Goes; rw [hg]; exact ⟨d, hd, .inl ⟨hv, h⟩⟩
theorem Goes.no {o : Oper} {ρ : Operand → Value} {w : World} {R : World → Value → Prop} (j : Nat) (b : Bool) (d : Tmp) (hg : o.guard = some (j, b)) (hd : ((ops[j]?).bind (·.dst)) = some d) (hv : ρ (.tmp d) = .bool (!b)) (h : R w undef) : Goes P ops o ρ w R := by
  unfold Goes; rw [hg]; exact ⟨d, hd, .inr ⟨hv, h⟩⟩
theorem tmp_at {a : Act} {d : Tmp} {v : Value} (h : a.eval (.tmp d) = v) (hv : v ≠ undef) : a.tmps[d]? = some v := by
  have h1 : a.tmps.getD d undef = v := h
  rw [Array.getD_eq_getD_getElem?] at h1
  cases hq : a.tmps[d]? with
  | none => rw [hq] at h1; exact absurd h1.symm hv
  | some u => rw [hq] at h1; exact congrArg some h1
theorem yield_at {a : Act} {j : Nat} {d : Tmp} {b : Bool} (hd : ((ops[j]?).bind (·.dst)) = some d) (h : a.eval (.tmp d) = .bool b) : yielded ops a.tmps j = some b := by
  have h1 := tmp_at h (by intro e; cases e)
  unfold yielded
  rw [hd]
  simp only [Option.bind_some, h1]
/-- An array of a size, place by place. -/
theorem arr_of_size {t : Array Value} {n : Nat} (h : t.size = n) : t = ((List.range n).map fun i => t.getD i undef).toArray := by
  apply Array.ext
  · simp [h]
  · intro i h1 h2
    simp [h1]
/-- A whole row is read. -/
theorem load_row {o : Oper} {ρ : Operand → Value} {w : World} (ty : TypeId) (x : Operand) (ho : o.op = .load ty x) (g : Nat) (hx : ρ x = .pointer (some ⟨g, 0, none⟩)) (t : TypeId) (cs : Array Value) (fr : Nat × Nat) (d : TypeDesc) (hg : w.heap[g]? = some (.cells cs t fr))
    (hu : P.underlying ty = some d) (hd : (match d with | .struct _ | .array _ _ => true | _ => false) = true) (hi : (P.info? ty).map (·.size) = some cs.size) : (execOp ρ o).run P w = .ok (.value (.agg cs)) w := by
  unfold execOp
  simp only [ho, hx, Instr.loadAt, Instr.sureAddr, Sem.run_bind, Sem.run_pure, Result.andThen_ok, run_loadVar_row w g t ty cs fr d hg hu hd hi]
/-- A region that draws its order, each operation shown once, guarded or not. J: what holds of the world all the while; Ext: what one operation may do to it; F i: what operation i yields, a fact that stays true. -/
theorem wp_region_guards {id : Nat} {l : List Oper} {a : Act} {w : World} (J : World → Prop) (Ext : World → World → Prop) (F : Nat → World → Value → Prop)
    (hm : P.follows .mixedOrders = true) (ht : topoG .any l.toArray = true) (hn : (dsts l.toArray).Nodup) (hsz : (dsts l.toArray).all (· < a.tmps.size) = true)
    (hmono : ∀ i w w' v, Ext w w' → F i w v → F i w' v) (hJ : J w.drew)
    (hop : AllOps (fun i o => ∀ (ρ : Operand → Value) (w' : World), J w' → (∀ v, ρ (.const v) = v) → (∀ f, ρ (.func f) = .func (.func f) #[] #[]) → Known .any l.toArray F a.tmps ρ w' o → Goes P l.toArray o ρ w' fun w2 v => J w2 ∧ Ext w' w2 ∧ F i w2 v) 0 l)
    (hfin : ∀ a' w', J w' → a'.defers = a.defers → a'.tmps.size = a.tmps.size → (∀ i o d, l.toArray[i]? = some o → o.dst = some d → F i w' (a'.tmps.getD d undef)) → (∀ t, (dsts l.toArray).contains t = false → a'.tmps.getD t undef = a.tmps.getD t undef) → Q .normal a' w') :
    (Code.region id l.toArray true).wp P Q a w := by
  refine wp_region_any hm (wpAny_inv (Inv .any l.toArray J F a) ?_ ?_ _ _ _ _ (by simp) ?_ ?_)
  · intro listed a1 w1 i hs hinv hir
    obtain ⟨o, ho, h2, h3⟩ := ready_spec hir
    have hgo := AllOps.get l 0 hop i o (by rw [← List.getElem?_toArray]; exact ho)
    rw [Nat.zero_add] at hgo
    have hk : Known .any l.toArray F a.tmps a1.eval w1 o := by
      refine ⟨fun e he hb oj hj d hd => hinv.fact e.on oj d (h3 e (by simpa using he) hb) hj hd, fun t htt => ?_⟩
      exact hinv.rest t htt
    have hgoes := hgo a1.eval w1 hinv.world (fun _ => rfl) (fun _ => rfl) hk
    have hput : ∀ w2 v, (J w2 ∧ Ext w1 w2 ∧ F i w2 v) → Inv .any l.toArray J F a (listed.setIfInBounds i true) (a1.put o.dst v) w2 := by
      rintro w2 v ⟨hj2, he2, hf2⟩
      have hli : i < listed.size := by rw [hs]; exact (Array.getElem?_eq_some_iff.1 ho).1
      refine ⟨hj2, put_defers.trans hinv.defers, put_size.trans hinv.size, ?_, ?_⟩
      · intro j oj d hlj hoj hdj
        by_cases hij : i = j
        · subst hij
          have : o = oj := Option.some.inj (ho.symm.trans hoj)
          subst this
          rw [hdj, put_at (by
            have h5 := List.all_eq_true.1 hsz d (by rw [← List.contains_iff_mem]; exact mem_dsts ho hdj)
            rw [hinv.size]
            simpa using h5)]
          exact hf2
        · have hne : o.dst ≠ some d := fun e => hij (nodup_dst hn i j o oj d (by rw [← List.getElem?_toArray]; exact ho) (by rw [← List.getElem?_toArray]; exact hoj) e hdj)
          rw [put_else hne]
          refine hmono j _ _ _ he2 (hinv.fact j oj d ?_ hoj hdj)
          rw [Array.getD_eq_getD_getElem?, Array.getElem?_setIfInBounds, if_neg hij, ← Array.getD_eq_getD_getElem?] at hlj
          exact hlj
      · intro t htt
        have hne : o.dst ≠ some t := fun e => by rw [mem_dsts ho e] at htt; cases htt
        rw [put_else hne]
        exact hinv.rest t htt
    unfold wpOp
    rw [ho]
    unfold Goes at hgoes
    cases hg : o.guard with
    | none =>
      rw [hg] at hgoes
      have hw : Region.wanted o (yielded l.toArray a1.tmps) = true := by unfold Region.wanted; rw [hg]
      simp only [hw, if_true]
      exact .inl (Runs.wp hgoes hput)
    | some jb =>
      obtain ⟨j, b⟩ := jb
      rw [hg] at hgoes
      obtain ⟨d, hd, hc⟩ := hgoes
      rcases hc with ⟨hv, hr⟩ | ⟨hv, hr⟩
      · have hw : Region.wanted o (yielded l.toArray a1.tmps) = true := by
          unfold Region.wanted; rw [hg]; simp [yield_at hd hv]
        simp only [hw, if_true]
        exact .inl (Runs.wp hr hput)
      · have hw : Region.wanted o (yielded l.toArray a1.tmps) = false := by
          unfold Region.wanted; rw [hg]; simp [yield_at hd hv]
        simp only [hw, Bool.false_eq_true, if_false]
        exact hput _ _ hr
  · intro listed a1 w1 hs hinv hr
    have hall := topo_allG ht hs hr
    exact hfin a1 w1 hinv.world hinv.defers hinv.size (fun i o d ho hd => hinv.fact i o d (hall i (Array.getElem?_eq_some_iff.1 ho).1) ho hd) hinv.rest
  · unfold unl
    refine Nat.le_trans (List.length_filter_le _ _) ?_
    simp
  · refine ⟨hJ, rfl, rfl, ?_, fun _ _ => rfl⟩
    intro i o d hl
    rw [Array.getD_eq_getD_getElem?, Array.getElem?_replicate] at hl
    split at hl <;> cases hl
end Go.Proofs.YtdgbililgkhjfaaDoor.Draw
namespace Go.Proofs.YtdgbililgkhjfaaDoor.Draw
set_option linter.unusedVariables false
theorem frame_after {t : Array Value} : ∀ (D : List Tmp) (A : Array Value), t.size = A.size → (∀ k, D.contains k = false → t.getD k undef = A.getD k undef) → t = D.foldl (fun B d => B.setIfInBounds d (t.getD d undef)) A
  | [], A, hz, hr => by
    apply Array.ext
    · exact hz
    · intro i h1 h2
      have h3 : i < A.size := h2
      have h4 := hr i rfl
      rw [Array.getD_eq_getD_getElem?, Array.getD_eq_getD_getElem?, Array.getElem?_eq_getElem h1, Array.getElem?_eq_getElem h3] at h4
      exact h4
  | d :: D, A, hz, hr => by
    rw [List.foldl_cons]
    refine frame_after D _ (by simpa using hz) fun k hk => ?_
    by_cases hkd : d = k
    · subst hkd
      by_cases hb : d < A.size
      · simp [Array.getD_eq_getD_getElem?, hb]
      · have h1 : t[d]? = none := Array.getElem?_eq_none (by rw [hz]; exact Nat.not_lt.1 hb)
        simp [Array.getD_eq_getD_getElem?, hb, h1]
    · have := hr k (by
        rw [List.contains_cons, hk, Bool.or_false]
        simpa using fun e : k = d => hkd e.symm)
      rw [this]
      simp [Array.getD_eq_getD_getElem?, hkd]
variable {P : Program} {Q : Exit → Act → World → Prop}
/-- What an operation may lean on: as Known; and a slot that a later one writes holds what it held. -/
def Known2 (md : Region.Mode) (ops : Array Oper) (F : Nat → World → Value → Prop) (t0 : Array Value) (ρ : Operand → Value) (w : World) (i : Nat) (o : Oper) : Prop :=
  Known md ops F t0 ρ w o ∧ ∀ (j : Nat) (oj : Oper) (d : Tmp), ops[j]? = some oj → oj.dst = some d → (oj.after.toList.any fun e => e.on == i && Region.binds md e) = true → ρ (.tmp d) = t0.getD d undef
/-- A region that draws its order, each operation shown once, guarded or not; behind it the frame with what its slots hold. -/
theorem wp_region_frame {id : Nat} {l : List Oper} {a : Act} {w : World} (J : World → Prop) (Ext : World → World → Prop) (F : Nat → World → Value → Prop)
    (hm : P.follows .mixedOrders = true) (ht : topoG .any l.toArray = true) (hn : (dsts l.toArray).Nodup) (hsz : (dsts l.toArray).all (· < a.tmps.size) = true)
    (hmono : ∀ i w w' v, Ext w w' → F i w v → F i w' v) (hJ : J w.drew)
    (hop : AllOps (fun i o => ∀ (ρ : Operand → Value) (w' : World), J w' → (∀ v, ρ (.const v) = v) → (∀ f, ρ (.func f) = .func (.func f) #[] #[]) → Known2 .any l.toArray F a.tmps ρ w' i o → Goes P l.toArray o ρ w' fun w2 v => J w2 ∧ Ext w' w2 ∧ F i w2 v) 0 l)
    (D : List Tmp) (hD : dsts l.toArray = D)
    (hfin : ∀ (u : Tmp → Value) w', J w' → (∀ i o d, l.toArray[i]? = some o → o.dst = some d → F i w' (u d)) → Q .normal ⟨D.foldl (fun B d => B.setIfInBounds d (u d)) a.tmps, a.defers⟩ w') :
    (Code.region id l.toArray true).wp P Q a w := by
  refine wp_region_any hm (wpAny_inv (fun listed a1 w1 => Inv .any l.toArray J F a listed a1 w1 ∧ (∀ j oj, listed.getD j false = true → l.toArray[j]? = some oj → ∀ e ∈ oj.after, Region.binds .any e = true → listed.getD e.on false = true) ∧ ∀ j oj d, l.toArray[j]? = some oj → oj.dst = some d → listed.getD j false = false → a1.tmps.getD d undef = a.tmps.getD d undef) ?_ ?_ _ _ _ _ (by simp) ?_ ?_)
  · rintro listed a1 w1 i hs ⟨hinv, hcl, hfr⟩ hir
    obtain ⟨o, ho, h2, h3⟩ := ready_spec hir
    have hli : i < listed.size := by rw [hs]; exact (Array.getElem?_eq_some_iff.1 ho).1
    have h2f : listed.getD i false = false := by
      have e : listed[i]? = some listed[i] := Array.getElem?_eq_getElem hli
      rw [Array.getD_eq_getD_getElem?, e] at h2 ⊢
      exact h2
    have hset : ∀ j, (listed.setIfInBounds i true).getD j false = if i = j then true else listed.getD j false := by
      intro j
      rw [Array.getD_eq_getD_getElem?, Array.getElem?_setIfInBounds]
      by_cases hij : i = j
      · subst hij; simp [hli]
      · simp [hij, Array.getD_eq_getD_getElem?]
    have hgo := AllOps.get l 0 hop i o (by rw [← List.getElem?_toArray]; exact ho)
    rw [Nat.zero_add] at hgo
    have hk : Known2 .any l.toArray F a.tmps a1.eval w1 i o := by
      refine ⟨⟨fun e he hb oj hj d hd => hinv.fact e.on oj d (h3 e (by simpa using he) hb) hj hd, fun t htt => hinv.rest t htt⟩, fun j oj d hj hd he => ?_⟩
      refine hfr j oj d hj hd ?_
      cases hlj : listed.getD j false with
      | false => rfl
      | true =>
        obtain ⟨e, hem, heb⟩ := List.any_eq_true.1 he
        rw [Bool.and_eq_true] at heb
        have h4 := hcl j oj hlj hj e (by simpa using hem) heb.2
        rw [show e.on = i by simpa using heb.1, h2f] at h4
        cases h4
    have hgoes := hgo a1.eval w1 hinv.world (fun _ => rfl) (fun _ => rfl) hk
    have hput : ∀ w2 v, (J w2 ∧ Ext w1 w2 ∧ F i w2 v) → Inv .any l.toArray J F a (listed.setIfInBounds i true) (a1.put o.dst v) w2 ∧ (∀ j oj, (listed.setIfInBounds i true).getD j false = true → l.toArray[j]? = some oj → ∀ e ∈ oj.after, Region.binds .any e = true → (listed.setIfInBounds i true).getD e.on false = true) ∧ ∀ j oj d, l.toArray[j]? = some oj → oj.dst = some d → (listed.setIfInBounds i true).getD j false = false → (a1.put o.dst v).tmps.getD d undef = a.tmps.getD d undef := by
      rintro w2 v ⟨hj2, he2, hf2⟩
      have hdst : ∀ j oj d, i ≠ j → l.toArray[j]? = some oj → oj.dst = some d → o.dst ≠ some d := fun j oj d hij hoj hdj e => hij (nodup_dst hn i j o oj d (by rw [← List.getElem?_toArray]; exact ho) (by rw [← List.getElem?_toArray]; exact hoj) e hdj)
      refine ⟨⟨hj2, put_defers.trans hinv.defers, put_size.trans hinv.size, ?_, ?_⟩, ?_, ?_⟩
      · intro j oj d hlj hoj hdj
        by_cases hij : i = j
        · subst hij
          have : o = oj := Option.some.inj (ho.symm.trans hoj)
          subst this
          rw [hdj, put_at (by
            have h5 := List.all_eq_true.1 hsz d (by rw [← List.contains_iff_mem]; exact mem_dsts ho hdj)
            rw [hinv.size]
            simpa using h5)]
          exact hf2
        · rw [put_else (hdst j oj d hij hoj hdj)]
          rw [hset, if_neg hij] at hlj
          exact hmono j _ _ _ he2 (hinv.fact j oj d hlj hoj hdj)
      · intro t htt
        have hne : o.dst ≠ some t := fun e => by rw [mem_dsts ho e] at htt; cases htt
        rw [put_else hne]
        exact hinv.rest t htt
      · intro j oj hlj hoj e he hb
        rw [hset]
        by_cases hie : i = e.on
        · rw [if_pos hie]
        · rw [if_neg hie]
          rw [hset] at hlj
          by_cases hij : i = j
          · subst hij
            have : o = oj := Option.some.inj (ho.symm.trans hoj)
            subst this
            exact h3 e he hb
          · rw [if_neg hij] at hlj
            exact hcl j oj hlj hoj e he hb
      · intro j oj d hoj hdj hlj
        rw [hset] at hlj
        by_cases hij : i = j
        · rw [if_pos hij] at hlj; cases hlj
        · rw [if_neg hij] at hlj
          rw [put_else (hdst j oj d hij hoj hdj)]
          exact hfr j oj d hoj hdj hlj
    unfold wpOp
    rw [ho]
    unfold Goes at hgoes
    cases hg : o.guard with
    | none =>
      rw [hg] at hgoes
      have hw : Region.wanted o (yielded l.toArray a1.tmps) = true := by unfold Region.wanted; rw [hg]
      simp only [hw, if_true]
      exact .inl (Runs.wp hgoes hput)
    | some jb =>
      obtain ⟨j, b⟩ := jb
      rw [hg] at hgoes
      obtain ⟨d, hd, hc⟩ := hgoes
      rcases hc with ⟨hv, hr⟩ | ⟨hv, hr⟩
      · have hw : Region.wanted o (yielded l.toArray a1.tmps) = true := by
          unfold Region.wanted; rw [hg]; simp [yield_at hd hv]
        simp only [hw, if_true]
        exact .inl (Runs.wp hr hput)
      · have hw : Region.wanted o (yielded l.toArray a1.tmps) = false := by
          unfold Region.wanted; rw [hg]; simp [yield_at hd hv]
        simp only [hw, Bool.false_eq_true, if_false]
        exact hput _ _ hr
  · rintro listed a1 w1 hs ⟨hinv, hcl, hfr⟩ hr
    have hall := topo_allG ht hs hr
    have h := hfin (fun d => a1.tmps.getD d undef) w1 hinv.world (fun i o d ho hd => hinv.fact i o d (hall i (Array.getElem?_eq_some_iff.1 ho).1) ho hd)
    rw [← hD, ← frame_after (dsts l.toArray) a.tmps hinv.size hinv.rest, ← hinv.defers] at h
    exact h
  · unfold unl
    refine Nat.le_trans (List.length_filter_le _ _) ?_
    simp
  · have hno : ∀ j, (Array.replicate l.toArray.size false).getD j false = false := fun j => by
      rw [Array.getD_eq_getD_getElem?, Array.getElem?_replicate]
      split <;> rfl
    refine ⟨⟨hJ, rfl, rfl, ?_, fun _ _ => rfl⟩, ?_, fun _ _ _ _ _ _ => rfl⟩
    · intro i o d hl
      have := (hno i).symm.trans hl
      cases this
    · intro j oj hl
      have := (hno j).symm.trans hl
      cases this
end Go.Proofs.YtdgbililgkhjfaaDoor.Draw
namespace Go.Proofs.YtdgbililgkhjfaaDoor.Draw
set_option linter.unusedVariables false
variable {P : Program} {Q : Exit → Act → World → Prop}
/-- Each of the first N operations is waited for by a later one, up to operation N. -/
def succB (md : Region.Mode) (ops : Array Oper) (N : Nat) : Bool := (List.range N).all fun p => (List.range (N + 1)).any fun j => decide (p < j) && ((ops[j]?).map fun o => o.after.toList.any fun e => e.on == p && Region.binds md e).getD false
/-- All behind operation N wait for it. -/
def tailB (md : Region.Mode) (ops : Array Oper) (N : Nat) : Bool := (List.range ops.size).all fun t => decide (t ≤ N) || ((ops[t]?).map fun o => o.after.toList.any fun e => decide (N ≤ e.on) && Region.binds md e).getD true
/-- The first N are done. -/
def doneN (N n : Nat) : Array Bool := (List.replicate N true ++ List.replicate (n - N) false).toArray
theorem getD_lt {l : Array Bool} {i : Nat} (h : i < l.size) (b : Bool) : l.getD i b = l[i] := by
  rw [Array.getD_eq_getD_getElem?, Array.getElem?_eq_getElem h]; rfl
theorem wp_region_prefix {id : Nat} {l : List Oper} {a : Act} {w : World} (N : Nat) (J : World → Prop) (Ext : World → World → Prop) (F : Nat → World → Value → Prop)
    (hm : P.follows .mixedOrders = true) (ht : topoG .any l.toArray = true) (hn : (dsts l.toArray).Nodup) (hsz : (dsts l.toArray).all (· < a.tmps.size) = true)
    (hN : N < l.length) (hsu : succB .any l.toArray N = true) (htl : tailB .any l.toArray N = true)
    (hmono : ∀ i w w' v, Ext w w' → F i w v → F i w' v) (hJ : J w.drew)
    (hop : AllOps (fun i o => ∀ (ρ : Operand → Value) (w' : World), J w' → (∀ v, ρ (.const v) = v) → (∀ f, ρ (.func f) = .func (.func f) #[] #[]) → Known2 .any l.toArray F a.tmps ρ w' i o → Goes P l.toArray o ρ w' fun w2 v => J w2 ∧ Ext w' w2 ∧ F i w2 v) 0 (l.take N))
    (D : List Tmp) (hD : dsts (l.take N).toArray = D) (fuel : Nat) (hfu : unl (doneN N l.length) = fuel)
    (hfin : ∀ (u : Tmp → Value) w', J w' → (∀ i o d, i < N → l.toArray[i]? = some o → o.dst = some d → F i w' (u d)) → wpAny P .any l.toArray Q fuel (doneN N l.length) ⟨D.foldl (fun B d => B.setIfInBounds d (u d)) a.tmps, a.defers⟩ w') :
    (Code.region id l.toArray true).wp P Q a w := by
  refine wp_region_any hm ?_
  have hsize : l.toArray.size = l.length := by simp
  suffices H : ∀ f (listed : Array Bool) (a1 : Act) (w1 : World), listed.size = l.toArray.size → unl listed = f →
      (Inv .any l.toArray J F a listed a1 w1 ∧ (∀ j oj, listed.getD j false = true → l.toArray[j]? = some oj → ∀ e ∈ oj.after, Region.binds .any e = true → listed.getD e.on false = true) ∧ (∀ j oj d, l.toArray[j]? = some oj → oj.dst = some d → listed.getD j false = false → a1.tmps.getD d undef = a.tmps.getD d undef) ∧ ∀ t, N ≤ t → listed.getD t false = false) → wpAny P .any l.toArray Q f listed a1 w1 by
    have hno : ∀ j, (Array.replicate l.toArray.size false).getD j false = false := fun j => by
      rw [Array.getD_eq_getD_getElem?, Array.getElem?_replicate]
      split <;> rfl
    refine H _ _ a _ (by simp) ?_ ⟨⟨hJ, rfl, rfl, ?_, fun _ _ => rfl⟩, ?_, fun _ _ _ _ _ _ => rfl, fun t _ => hno t⟩
    · simp [unl]
    · intro i o d hl
      have := (hno i).symm.trans hl
      cases this
    · intro j oj hl
      have := (hno j).symm.trans hl
      cases this
  intro f
  induction f with
  | zero =>
    rintro listed a1 w1 hs hu ⟨hinv, hcl, hfr, htt⟩
    exfalso
    have hNl : N < listed.size := by omega
    have h1 := htt N (Nat.le_refl _)
    have h2 : listed.getD N true = false := by rw [getD_lt hNl] at h1 ⊢; exact h1
    have := unl_set h2
    omega
  | succ f ih =>
    rintro listed a1 w1 hs hu ⟨hinv, hcl, hfr, htt⟩
    by_cases hall : ∀ p, p < N → listed.getD p false = true
    · have hld : listed = doneN N l.length := by
        apply Array.ext
        · simp [doneN]; omega
        · intro i h1 h2
          have e1 := getD_lt h1 false
          rw [← e1]
          by_cases hi : i < N
          · rw [hall i hi]
            simp only [doneN, List.getElem_toArray]
            rw [List.getElem_append_left (by simpa using hi), List.getElem_replicate]
          · rw [htt i (by omega)]
            simp only [doneN, List.getElem_toArray]
            rw [List.getElem_append_right (by simpa using Nat.le_of_not_lt hi), List.getElem_replicate]
      subst hld
      have hf : f + 1 = fuel := by rw [← hu, hfu]
      rw [hf]
      have h := hfin (fun d => a1.tmps.getD d undef) w1 hinv.world (fun i o d hi ho hd => hinv.fact i o d (hall i hi) ho hd)
      rw [← hD, ← frame_after (dsts (l.take N).toArray) a.tmps hinv.size (fun k hk => ?_), ← hinv.defers] at h
      · exact h
      · by_cases hkd : (dsts l.toArray).contains k = true
        · obtain ⟨o, ho, hod⟩ := List.mem_filterMap.1 (List.contains_iff_mem.1 hkd)
          obtain ⟨j, hj, hjo⟩ := List.getElem_of_mem ho
          have hjs : l.toArray[j]? = some o := by rw [← hjo]; simp [hj]
          by_cases hjN : j < N
          · exfalso
            have hmem : o ∈ (l.take N).toArray.toList := by
              rw [List.toList_toArray]
              rw [← hjo]
              exact List.mem_take_iff_getElem.2 ⟨j, by omega, rfl⟩
            have : (dsts (l.take N).toArray).contains k = true := List.contains_iff_mem.2 (List.mem_filterMap.2 ⟨o, hmem, hod⟩)
            rw [this] at hk; cases hk
          · exact hfr j o k hjs hod (htt j (by omega))
        · exact hinv.rest k (by simpa using hkd)
    · refine ⟨fun hr => ?_, fun i hir => ?_⟩
      · exfalso
        have hall2 := topo_allG ht hs hr
        exact hall fun p hp => hall2 p (by omega)
      · obtain ⟨o, ho, h2, h3⟩ := ready_spec hir
        have hli : i < listed.size := by rw [hs]; exact (Array.getElem?_eq_some_iff.1 ho).1
        have h2f : listed.getD i false = false := by rw [getD_lt hli] at h2 ⊢; exact h2
        have hiN : i < N := by
          refine Nat.lt_of_not_le fun hge => ?_
          rcases Nat.lt_or_ge N i with hgt | hle
          · have h5 := (List.all_eq_true.1 htl) i (List.mem_range.2 (by omega))
            rw [ho] at h5
            simp only [Option.map_some, Option.getD_some, Bool.or_eq_true, decide_eq_true_iff] at h5
            rcases h5 with h5 | h5
            · omega
            · obtain ⟨e, hem, heb⟩ := List.any_eq_true.1 h5
              rw [Bool.and_eq_true, decide_eq_true_iff] at heb
              have h6 := h3 e (by simpa using hem) heb.2
              rw [htt e.on heb.1] at h6
              cases h6
          · have hiN : i = N := by omega
            subst hiN
            apply hall
            have key : ∀ k p, p + k = i → 0 < k → listed.getD p false = true := by
              intro k
              induction k using Nat.strongRecOn with
              | ind k ihk =>
                intro p hp hk
                have h5 := (List.all_eq_true.1 hsu) p (List.mem_range.2 (by omega))
                obtain ⟨j, hj, hjb⟩ := List.any_eq_true.1 h5
                rw [Bool.and_eq_true, decide_eq_true_iff] at hjb
                have hji := List.mem_range.1 hj
                cases hoj : l.toArray[j]? with
                | none => rw [hoj] at hjb; simp at hjb
                | some oj =>
                  rw [hoj] at hjb
                  simp only [Option.map_some, Option.getD_some] at hjb
                  obtain ⟨e, hem, heb⟩ := List.any_eq_true.1 hjb.2
                  rw [Bool.and_eq_true] at heb
                  have hep : e.on = p := by simpa using heb.1
                  by_cases hjN : j = i
                  · subst hjN
                    have : oj = o := Option.some.inj (hoj.symm.trans ho)
                    subst this
                    have h6 := h3 e (by simpa using hem) heb.2
                    rwa [hep] at h6
                  · have hjl := ihk (i - j) (by omega) j (by omega) (by omega)
                    have h6 := hcl j oj hjl hoj e (by simpa using hem) heb.2
                    rwa [hep] at h6
            exact fun p hp => key (i - p) p (by omega) (by omega)
        have hset : ∀ j, (listed.setIfInBounds i true).getD j false = if i = j then true else listed.getD j false := by
          intro j
          rw [Array.getD_eq_getD_getElem?, Array.getElem?_setIfInBounds]
          by_cases hij : i = j
          · subst hij; simp [hli]
          · simp [hij, Array.getD_eq_getD_getElem?]
        have hgo := AllOps.get (l.take N) 0 hop i o (by
          rw [List.getElem?_take, if_pos hiN, ← List.getElem?_toArray]; exact ho)
        rw [Nat.zero_add] at hgo
        have hk : Known2 .any l.toArray F a.tmps a1.eval w1 i o := by
          refine ⟨⟨fun e he hb oj hj d hd => hinv.fact e.on oj d (h3 e (by simpa using he) hb) hj hd, fun t htt => hinv.rest t htt⟩, fun j oj d hj hd he => ?_⟩
          refine hfr j oj d hj hd ?_
          cases hlj : listed.getD j false with
          | false => rfl
          | true =>
            obtain ⟨e, hem, heb⟩ := List.any_eq_true.1 he
            rw [Bool.and_eq_true] at heb
            have h4 := hcl j oj hlj hj e (by simpa using hem) heb.2
            rw [show e.on = i by simpa using heb.1, h2f] at h4
            cases h4
        have hgoes := hgo a1.eval w1 hinv.world (fun _ => rfl) (fun _ => rfl) hk
        have hput : ∀ w2 v, (J w2 ∧ Ext w1 w2 ∧ F i w2 v) → wpAny P .any l.toArray Q f (listed.setIfInBounds i true) (a1.put o.dst v) w2 := by
          rintro w2 v ⟨hj2, he2, hf2⟩
          have hdst : ∀ j oj d, i ≠ j → l.toArray[j]? = some oj → oj.dst = some d → o.dst ≠ some d := fun j oj d hij hoj hdj e => hij (nodup_dst hn i j o oj d (by rw [← List.getElem?_toArray]; exact ho) (by rw [← List.getElem?_toArray]; exact hoj) e hdj)
          refine ih _ _ _ (by simpa using hs) (by have := unl_set h2; omega) ⟨⟨hj2, put_defers.trans hinv.defers, put_size.trans hinv.size, ?_, ?_⟩, ?_, ?_, ?_⟩
          · intro j oj d hlj hoj hdj
            by_cases hij : i = j
            · subst hij
              have : o = oj := Option.some.inj (ho.symm.trans hoj)
              subst this
              rw [hdj, put_at (by
                have h5 := List.all_eq_true.1 hsz d (by rw [← List.contains_iff_mem]; exact mem_dsts ho hdj)
                rw [hinv.size]
                simpa using h5)]
              exact hf2
            · rw [put_else (hdst j oj d hij hoj hdj)]
              rw [hset, if_neg hij] at hlj
              exact hmono j _ _ _ he2 (hinv.fact j oj d hlj hoj hdj)
          · intro t htt
            have hne : o.dst ≠ some t := fun e => by rw [mem_dsts ho e] at htt; cases htt
            rw [put_else hne]
            exact hinv.rest t htt
          · intro j oj hlj hoj e he hb
            rw [hset]
            by_cases hie : i = e.on
            · rw [if_pos hie]
            · rw [if_neg hie]
              rw [hset] at hlj
              by_cases hij : i = j
              · subst hij
                have : o = oj := Option.some.inj (ho.symm.trans hoj)
                subst this
                exact h3 e he hb
              · rw [if_neg hij] at hlj
                exact hcl j oj hlj hoj e he hb
          · intro j oj d hoj hdj hlj
            rw [hset] at hlj
            by_cases hij : i = j
            · rw [if_pos hij] at hlj; cases hlj
            · rw [if_neg hij] at hlj
              rw [put_else (hdst j oj d hij hoj hdj)]
              exact hfr j oj d hoj hdj hlj
          · intro t ht
            rw [hset, if_neg (by omega)]
            exact htt t ht
        unfold wpOp
        rw [ho]
        unfold Goes at hgoes
        cases hg : o.guard with
        | none =>
          rw [hg] at hgoes
          have hw : Region.wanted o (yielded l.toArray a1.tmps) = true := by unfold Region.wanted; rw [hg]
          simp only [hw, if_true]
          exact .inl (Runs.wp hgoes hput)
        | some jb =>
          obtain ⟨j, b⟩ := jb
          rw [hg] at hgoes
          obtain ⟨d, hd, hc⟩ := hgoes
          rcases hc with ⟨hv, hr⟩ | ⟨hv, hr⟩
          · have hw : Region.wanted o (yielded l.toArray a1.tmps) = true := by
              unfold Region.wanted; rw [hg]; simp [yield_at hd hv]
            simp only [hw, if_true]
            exact .inl (Runs.wp hr hput)
          · have hw : Region.wanted o (yielded l.toArray a1.tmps) = false := by
              unfold Region.wanted; rw [hg]; simp [yield_at hd hv]
            simp only [hw, Bool.false_eq_true, if_false]
            exact hput _ _ hr
/-- One operation may come up. -/
theorem wpAny_one {ops : Array Oper} {fuel i : Nat} {o : Oper} {listed : Array Bool} {a : Act} {w : World} (hr : Region.ready .any ops listed = [i]) (ho : ops[i]? = some o) (hg : o.guard = none)
    (h : o.wp P a w (wpAny P .any ops Q fuel (listed.setIfInBounds i true)) Q) : wpAny P .any ops Q (fuel + 1) listed a w := by
  refine ⟨fun e => absurd (hr.symm.trans e) (by simp), fun j hj => ?_⟩
  rw [hr] at hj
  obtain rfl : j = i := by simpa using hj
  unfold wpOp
  rw [ho]
  have hw : Region.wanted o (yielded ops a.tmps) = true := by unfold Region.wanted; rw [hg]
  simp only [hw, if_true]
  exact .inl h
theorem wpAny_end {ops : Array Oper} {fuel : Nat} {listed : Array Bool} {a : Act} {w : World} (hr : Region.ready .any ops listed = []) (h : Q .normal a w) : wpAny P .any ops Q fuel listed a w :=
  wpAny_done hr h fuel
/-- An operation that yields a value. -/
theorem wp_value {o : Oper} {a : Act} {w w' : World} {v : Value} {K : Act → World → Prop} (h : (execOp a.eval o).run P w = .ok (.value v) w') (hK : K (a.put o.dst v) w') : o.wp P a w K Q := by
  unfold Oper.wp
  rw [h]
  exact hK
theorem wp_skip {o : Oper} {a : Act} {w w' : World} {K : Act → World → Prop} (h : (execOp a.eval o).run P w = .ok .skip w') (hK : K (a.put o.dst undef) w') : o.wp P a w K Q := by
  unfold Oper.wp
  rw [h]
  exact hK
/-- What an operation behind the first M may lean on. -/
def Known3 (md : Region.Mode) (ops : Array Oper) (M : Nat) (F : Nat → World → Value → Prop) (D : List Tmp) (t0 : Array Value) (ρ : Operand → Value) (w : World) (i : Nat) (o : Oper) : Prop :=
  (∀ e ∈ o.after.toList, Region.binds md e = true → M ≤ e.on → ∀ oj, ops[e.on]? = some oj → ∀ d, oj.dst = some d → F e.on w (ρ (.tmp d))) ∧ (∀ t, D.contains t = false → ρ (.tmp t) = t0.getD t undef)
theorem Known3.get {md : Region.Mode} {ops : Array Oper} {M : Nat} {F : Nat → World → Value → Prop} {D : List Tmp} {t0 : Array Value} {ρ : Operand → Value} {w : World} {i : Nat} {o : Oper} (h : Known3 md ops M F D t0 ρ w i o) (j : Nat) (d : Tmp)
    (he : (o.after.toList.any fun e => e.on == j && Region.binds md e) = true) (hM : decide (M ≤ j) = true) (hd : ((ops[j]?).bind (·.dst)) = some d) : F j w (ρ (.tmp d)) := by
  obtain ⟨e, hm, hb⟩ := List.any_eq_true.1 he
  rw [Bool.and_eq_true] at hb
  have hj : e.on = j := by simpa using hb.1
  subst hj
  obtain ⟨oj, ho, hdj⟩ := Option.bind_eq_some_iff.1 hd
  exact h.1 e hm hb.2 (of_decide_eq_true hM) oj ho d hdj
theorem doneN_at {M n i : Nat} (hM : M ≤ n) : (doneN M n).getD i false = decide (i < M) := by
  unfold doneN
  rw [Array.getD_eq_getD_getElem?, List.getElem?_toArray, List.getElem?_append]
  by_cases h : i < M
  · simp [h]
  · simp only [List.length_replicate, h, if_false, decide_false]
    rw [List.getElem?_replicate]
    split <;> rfl
/-- The rest of a region behind its first M operations, each shown once. -/
theorem wpAny_last {l : List Oper} {a : Act} {w : World} (M : Nat) (J : World → Prop) (Ext : World → World → Prop) (F : Nat → World → Value → Prop)
    (ht : topoG .any l.toArray = true) (hn : (dsts l.toArray).Nodup) (hsz : (dsts l.toArray).all (· < a.tmps.size) = true) (hM : M ≤ l.length)
    (hmono : ∀ i w w' v, Ext w w' → F i w v → F i w' v) (hJ : J w) (D : List Tmp) (hD : dsts (l.drop M).toArray = D)
    (hop : AllOps (fun i o => ∀ (ρ : Operand → Value) (w' : World), J w' → (∀ v, ρ (.const v) = v) → (∀ f, ρ (.func f) = .func (.func f) #[] #[]) → Known3 .any l.toArray M F D a.tmps ρ w' i o → Goes P l.toArray o ρ w' fun w2 v => J w2 ∧ Ext w' w2 ∧ F i w2 v) M (l.drop M))
    (fuel : Nat) (hfu : unl (doneN M l.length) = fuel)
    (hfin : ∀ (u : Tmp → Value) w', J w' → (∀ i o d, M ≤ i → l.toArray[i]? = some o → o.dst = some d → F i w' (u d)) → Q .normal ⟨D.foldl (fun B d => B.setIfInBounds d (u d)) a.tmps, a.defers⟩ w') :
    wpAny P .any l.toArray Q fuel (doneN M l.length) a w := by
  have hsize : l.toArray.size = l.length := by simp
  have hmemD : ∀ j oj d, M ≤ j → l.toArray[j]? = some oj → oj.dst = some d → D.contains d = true := by
    intro j oj d hj hoj hdj
    rw [← hD]
    refine List.contains_iff_mem.2 (List.mem_filterMap.2 ⟨oj, ?_, hdj⟩)
    rw [List.toList_toArray]
    refine List.mem_of_getElem? (i := j - M) ?_
    rw [List.getElem?_drop, show M + (j - M) = j by omega, ← List.getElem?_toArray]; exact hoj
  refine wpAny_inv (fun listed a1 w1 => J w1 ∧ a1.defers = a.defers ∧ a1.tmps.size = a.tmps.size ∧ (∀ i o d, M ≤ i → listed.getD i false = true → l.toArray[i]? = some o → o.dst = some d → F i w1 (a1.tmps.getD d undef)) ∧ (∀ t, D.contains t = false → a1.tmps.getD t undef = a.tmps.getD t undef) ∧ ∀ i, i < M → listed.getD i false = true) ?_ ?_ _ _ _ _ (by simp [doneN]; omega) (Nat.le_of_eq hfu) ?_
  · rintro listed a1 w1 i hs ⟨hJ1, hde, hz, hfact, hrest, hpre⟩ hir
    obtain ⟨o, ho, h2, h3⟩ := ready_spec hir
    have hli : i < listed.size := by rw [hs]; exact (Array.getElem?_eq_some_iff.1 ho).1
    have h2f : listed.getD i false = false := by rw [getD_lt hli] at h2 ⊢; exact h2
    have hMi : M ≤ i := Nat.le_of_not_lt fun h => by rw [hpre i h] at h2f; cases h2f
    have hset : ∀ j, (listed.setIfInBounds i true).getD j false = if i = j then true else listed.getD j false := by
      intro j
      rw [Array.getD_eq_getD_getElem?, Array.getElem?_setIfInBounds]
      by_cases hij : i = j
      · subst hij; simp [hli]
      · simp [hij, Array.getD_eq_getD_getElem?]
    have hgo := AllOps.get (l.drop M) M hop (i - M) o (by
      rw [List.getElem?_drop, show M + (i - M) = i by omega, ← List.getElem?_toArray]; exact ho)
    rw [show M + (i - M) = i by omega] at hgo
    have hk : Known3 .any l.toArray M F D a.tmps a1.eval w1 i o :=
      ⟨fun e he hb hMe oj hj d hd => hfact e.on oj d hMe (h3 e (by simpa using he) hb) hj hd, fun t htt => hrest t htt⟩
    have hgoes := hgo a1.eval w1 hJ1 (fun _ => rfl) (fun _ => rfl) hk
    have hput : ∀ w2 v, (J w2 ∧ Ext w1 w2 ∧ F i w2 v) → J w2 ∧ (a1.put o.dst v).defers = a.defers ∧ (a1.put o.dst v).tmps.size = a.tmps.size ∧ (∀ i_1 o_1 d, M ≤ i_1 → (listed.setIfInBounds i true).getD i_1 false = true → l.toArray[i_1]? = some o_1 → o_1.dst = some d → F i_1 w2 ((a1.put o.dst v).tmps.getD d undef)) ∧ (∀ t, D.contains t = false → (a1.put o.dst v).tmps.getD t undef = a.tmps.getD t undef) ∧ ∀ i_1, i_1 < M → (listed.setIfInBounds i true).getD i_1 false = true := by
      rintro w2 v ⟨hj2, he2, hf2⟩
      have hdst : ∀ j oj d, i ≠ j → l.toArray[j]? = some oj → oj.dst = some d → o.dst ≠ some d := fun j oj d hij hoj hdj e => hij (nodup_dst hn i j o oj d (by rw [← List.getElem?_toArray]; exact ho) (by rw [← List.getElem?_toArray]; exact hoj) e hdj)
      refine ⟨hj2, put_defers.trans hde, put_size.trans hz, ?_, ?_, ?_⟩
      · intro j oj d hMj hlj hoj hdj
        by_cases hij : i = j
        · subst hij
          have : o = oj := Option.some.inj (ho.symm.trans hoj)
          subst this
          rw [hdj, put_at (by
            have h5 := List.all_eq_true.1 hsz d (by rw [← List.contains_iff_mem]; exact mem_dsts ho hdj)
            rw [hz]
            simpa using h5)]
          exact hf2
        · rw [put_else (hdst j oj d hij hoj hdj)]
          rw [hset, if_neg hij] at hlj
          exact hmono j _ _ _ he2 (hfact j oj d hMj hlj hoj hdj)
      · intro t htt
        have hne : o.dst ≠ some t := fun e => by rw [hmemD i o t hMi ho e] at htt; cases htt
        rw [put_else hne]
        exact hrest t htt
      · intro j hj
        rw [hset, if_neg (by omega)]
        exact hpre j hj
    unfold wpOp
    rw [ho]
    unfold Goes at hgoes
    cases hg : o.guard with
    | none =>
      rw [hg] at hgoes
      have hw : Region.wanted o (yielded l.toArray a1.tmps) = true := by unfold Region.wanted; rw [hg]
      simp only [hw, if_true]
      exact .inl (Runs.wp hgoes hput)
    | some jb =>
      obtain ⟨j, b⟩ := jb
      rw [hg] at hgoes
      obtain ⟨d, hd, hc⟩ := hgoes
      rcases hc with ⟨hv, hr⟩ | ⟨hv, hr⟩
      · have hw : Region.wanted o (yielded l.toArray a1.tmps) = true := by
          unfold Region.wanted; rw [hg]; simp [yield_at hd hv]
        simp only [hw, if_true]
        exact .inl (Runs.wp hr hput)
      · have hw : Region.wanted o (yielded l.toArray a1.tmps) = false := by
          unfold Region.wanted; rw [hg]; simp [yield_at hd hv]
        simp only [hw, Bool.false_eq_true, if_false]
        exact hput _ _ hr
  · rintro listed a1 w1 hs ⟨hJ1, hde, hz, hfact, hrest, hpre⟩ hr
    have hall := topo_allG ht hs hr
    have h := hfin (fun d => a1.tmps.getD d undef) w1 hJ1 (fun i o d hMi ho hd => hfact i o d hMi (hall i (Array.getElem?_eq_some_iff.1 ho).1) ho hd)
    rw [← frame_after D a.tmps hz hrest, ← hde] at h
    exact h
  · refine ⟨hJ, rfl, rfl, fun i o d hMi hl => ?_, fun _ _ => rfl, fun i hi => ?_⟩
    · rw [doneN_at hM, decide_eq_true_iff] at hl
      omega
    · rw [doneN_at hM, decide_eq_true_iff]; exact hi
end Go.Proofs.YtdgbililgkhjfaaDoor.Draw
