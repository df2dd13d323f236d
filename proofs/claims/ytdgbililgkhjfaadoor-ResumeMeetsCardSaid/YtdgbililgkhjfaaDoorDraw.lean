/- A region that draws its order, shown once for each operation: what each operation yields is told by a fact that stays true. No conditions. -/
import Derived.Test.YtdgbililgkhjfaaDoorProg
import Derived.Orders
import Derived.RegionTactic
import Derived.WalkKit
namespace Go.Proofs.YtdgbililgkhjfaaDoor.Draw
set_option linter.unusedVariables false
variable {P : Program} {ops : Array Oper} {Q : Exit → Act → World → Prop} {md : Region.Mode}
/-- How many operations are still to come. -/
def unl (l : Array Bool) : Nat := (l.toList.filter (! ·)).length
theorem unl_list : ∀ (l : List Bool) (i : Nat), l[i]? = some false → ((l.set i true).filter (! ·)).length + 1 = (l.filter (! ·)).length
  | [], i, h => by simp at h
  | b :: l, 0, h => by
    have : b = false := by simpa using h
    subst this
    simp
  | b :: l, i + 1, h => by
    have ih := unl_list l i (by simpa using h)
    cases b <;> simp_all
theorem unl_set {l : Array Bool} {i : Nat} (h : l.getD i true = false) : unl (l.setIfInBounds i true) + 1 = unl l := by
  unfold unl
  rw [Array.toList_setIfInBounds]
  refine unl_list _ _ ?_
  rw [Array.getElem?_toList]
  cases hq : l[i]? with
  | none => simp [Array.getD_eq_getD_getElem?, hq] at h
  | some b => simp [Array.getD_eq_getD_getElem?, hq] at h; rw [h]
theorem ready_spec {listed : Array Bool} {i : Nat} (h : i ∈ Region.ready md ops listed) :
    ∃ o, ops[i]? = some o ∧ listed.getD i true = false ∧ ∀ e ∈ o.after, Region.binds md e = true → listed.getD e.on false = true := by
  unfold Region.ready at h
  obtain ⟨h1, h2⟩ := List.mem_filter.1 h
  rw [Bool.and_eq_true] at h2
  obtain ⟨h2, h3⟩ := h2
  cases ho : ops[i]? with
  | none => simp [ho] at h3
  | some o =>
    refine ⟨o, rfl, by simpa using h2, fun e he hb => ?_⟩
    simp only [ho, Option.map_some, Option.getD_some, Array.all_eq_true_iff_forall_mem] at h3
    have := h3 e he
    simpa [hb] using this
/-- A rule by an invariant. -/
theorem wpAny_inv (I : Array Bool → Act → World → Prop)
    (hstep : ∀ listed a w i, listed.size = ops.size → I listed a w → i ∈ Region.ready md ops listed → wpOp P ops Q i (I (listed.setIfInBounds i true)) a w)
    (hdone : ∀ listed a w, listed.size = ops.size → I listed a w → Region.ready md ops listed = [] → Q .normal a w) :
    ∀ fuel listed a w, listed.size = ops.size → unl listed ≤ fuel → I listed a w → wpAny P md ops Q fuel listed a w := by
  intro fuel
  induction fuel with
  | zero =>
    intro listed a w hs hu hi
    have hr : Region.ready md ops listed = [] := by
      cases hr : Region.ready md ops listed with
      | nil => rfl
      | cons i rest =>
        obtain ⟨o, _, h2, _⟩ := ready_spec (md := md) (ops := ops) (listed := listed) (i := i) (by rw [hr]; exact List.mem_cons_self ..)
        have := unl_set h2
        omega
    exact ⟨hr, hdone listed a w hs hi hr⟩
  | succ fuel ih =>
    intro listed a w hs hu hi
    refine ⟨hdone listed a w hs hi, fun i hir => ?_⟩
    obtain ⟨o, _, h2, _⟩ := ready_spec hir
    refine wpOp_mono (fun a' w' h => ih _ a' w' (by simpa using hs) (by have := unl_set h2; omega) h) (hstep listed a w i hs hi hir)
/-- No operation waits for a later one. -/
def topoB (md : Region.Mode) (ops : Array Oper) : Bool := (List.range ops.size).all fun i => ((ops[i]?).map fun o => o.guard.isNone && o.after.all fun e => !Region.binds md e || decide (e.on < i)).getD true
theorem topo_all {listed : Array Bool} (ht : topoB md ops = true) (hs : listed.size = ops.size) (hr : Region.ready md ops listed = []) : ∀ i, i < ops.size → listed.getD i false = true := by
  intro i
  induction i using Nat.strongRecOn with
  | ind i ih =>
    intro hi
    cases hb : listed.getD i false with
    | true => rfl
    | false =>
      have hmem : i ∈ Region.ready md ops listed := by
        unfold Region.ready
        refine List.mem_filter.2 ⟨List.mem_range.2 hi, ?_⟩
        have ho : ops[i]? = some ops[i] := Array.getElem?_eq_getElem hi
        have h1 : listed.getD i true = false := by
          have hl : listed[i]? = some listed[i] := Array.getElem?_eq_getElem (by omega)
          simp [Array.getD_eq_getD_getElem?, hl] at hb ⊢
          exact hb
        rw [h1, ho]
        simp only [Bool.not_false, Bool.true_and, Option.map_some, Option.getD_some, Array.all_eq_true_iff_forall_mem]
        intro e he
        have h2 := (List.all_eq_true.1 ht) i (List.mem_range.2 hi)
        rw [ho] at h2
        simp only [Option.map_some, Option.getD_some, Bool.and_eq_true, Array.all_eq_true_iff_forall_mem] at h2
        have h3 := h2.2 e he
        cases hbd : Region.binds md e with
        | false => simp
        | true =>
          rw [hbd] at h3
          have h4 : e.on < i := by simpa using h3
          simp [ih e.on h4 (by omega)]
      rw [hr] at hmem
      cases hmem
theorem topo_guard {i : Nat} {o : Oper} (ht : topoB md ops = true) (ho : ops[i]? = some o) : o.guard = none := by
  have hi : i < ops.size := (Array.getElem?_eq_some_iff.1 ho).1
  have h2 := (List.all_eq_true.1 ht) i (List.mem_range.2 hi)
  rw [ho] at h2
  simp only [Option.map_some, Option.getD_some, Bool.and_eq_true] at h2
  simpa using h2.1
/-- No two operations write the same slot. -/
def dstB (ops : Array Oper) : Bool := (ops.toList.filterMap (·.dst)).Nodup
/-- What an operation comes to, at what its operands hold. -/
def Runs (P : Program) (o : Oper) (ρ : Operand → Value) (w : World) (R : World → Value → Prop) : Prop :=
  match (execOp ρ o).run P w with
  | .ok (.value v) w' => R w' v
  | .ok .skip w' => R w' undef
  | .ok (.enter f args) w' => Calls P f args w' fun e w'' => ∃ v, e = .returned v ∧ R w'' v
  | _ => False
theorem Runs.wp {o : Oper} {a : Act} {w : World} {R : World → Value → Prop} {K : Act → World → Prop} (h : Runs P o a.eval w R) (hK : ∀ w' v, R w' v → K (a.put o.dst v) w') : o.wp P a w K Q := by
  unfold Runs at h
  unfold Oper.wp
  generalize (execOp a.eval o).run P w = r at h
  cases r with
  | halt x w' => cases h
  | ok n w' =>
    cases n with
    | value v => exact hK _ _ h
    | skip => exact hK _ _ h
    | enter f args => exact Calls.mono h fun e w'' ⟨v, he, hr⟩ => by subst he; exact hK _ _ hr
    | _ => cases h
theorem Runs.value {o : Oper} {ρ : Operand → Value} {w w' : World} {v : Value} {R : World → Value → Prop} (h : (execOp ρ o).run P w = .ok (.value v) w') (hR : R w' v) : Runs P o ρ w R := by
  unfold Runs; rw [h]; exact hR
theorem Runs.enter {o : Oper} {ρ : Operand → Value} {w : World} {f : FuncId} {args : Array Value} {R : World → Value → Prop} (h : (execOp ρ o).run P w = .ok (.enter f args) w) (hR : Calls P f args w fun e w'' => ∃ v, e = .returned v ∧ R w'' v) : Runs P o ρ w R := by
  unfold Runs; rw [h]; exact hR
/-- The slots that the region writes. -/
def dsts (ops : Array Oper) : List Tmp := ops.toList.filterMap (·.dst)
/-- What an operation may lean on: what those that it waits for have yielded, and the slots that the region does not write. -/
def Known (md : Region.Mode) (ops : Array Oper) (F : Nat → World → Value → Prop) (t0 : Array Value) (ρ : Operand → Value) (w : World) (o : Oper) : Prop :=
  (∀ e ∈ o.after.toList, Region.binds md e = true → ∀ oj, ops[e.on]? = some oj → ∀ d, oj.dst = some d → F e.on w (ρ (.tmp d))) ∧ (∀ t, (dsts ops).contains t = false → ρ (.tmp t) = t0.getD t undef)
theorem Known.get {md : Region.Mode} {ops : Array Oper} {F : Nat → World → Value → Prop} {t0 : Array Value} {ρ : Operand → Value} {w : World} {o : Oper} (h : Known md ops F t0 ρ w o) (j : Nat) (d : Tmp)
    (he : (o.after.toList.any fun e => e.on == j && Region.binds md e) = true) (hd : ((ops[j]?).bind (·.dst)) = some d) : F j w (ρ (.tmp d)) := by
  obtain ⟨e, hm, hb⟩ := List.any_eq_true.1 he
  rw [Bool.and_eq_true] at hb
  have hj : e.on = j := by simpa using hb.1
  subst hj
  obtain ⟨oj, ho, hdj⟩ := Option.bind_eq_some_iff.1 hd
  exact h.1 e hm hb.2 oj ho d hdj
theorem results2 {fn : Func} {u v : Tmp} (h : fn.results = #[.tmp u, .tmp v]) (t : Array Value) (P : Program) (w : World) : (results fn t).run P w = .ok (.tuple #[t.getD u undef, t.getD v undef]) w := by
  simp [results, h]
theorem results1 {fn : Func} {u : Tmp} (h : fn.results = #[.tmp u]) (t : Array Value) (P : Program) (w : World) : (results fn t).run P w = .ok (t.getD u undef) w := by
  simp [results, h]
/-- The obligations, one for each operation. -/
def AllOps (G : Nat → Oper → Prop) : Nat → List Oper → Prop
  | _, [] => True
  | i, o :: l => G i o ∧ AllOps G (i + 1) l
theorem AllOps.get {G : Nat → Oper → Prop} : ∀ (l : List Oper) (k : Nat), AllOps G k l → ∀ i o, l[i]? = some o → G (k + i) o
  | [], k, h, i, o, hi => by simp at hi
  | a :: l, k, h, 0, o, hi => by
    have : a = o := by simpa using hi
    subst this
    exact h.1
  | a :: l, k, h, i + 1, o, hi => by
    have := AllOps.get l (k + 1) h.2 i o (by simpa using hi)
    rwa [show k + (i + 1) = k + 1 + i by omega]
structure Inv (md : Region.Mode) (ops : Array Oper) (J : World → Prop) (F : Nat → World → Value → Prop) (a0 : Act) (listed : Array Bool) (a : Act) (w : World) : Prop where
  world : J w
  defers : a.defers = a0.defers
  size : a.tmps.size = a0.tmps.size
  fact : ∀ i o d, listed.getD i false = true → ops[i]? = some o → o.dst = some d → F i w (a.tmps.getD d undef)
  rest : ∀ t, (dsts ops).contains t = false → a.tmps.getD t undef = a0.tmps.getD t undef
theorem nodup_dst {l : List Oper} (h : (l.filterMap (·.dst)).Nodup) : ∀ (i j : Nat) (oi oj : Oper) (d : Tmp), l[i]? = some oi → l[j]? = some oj → oi.dst = some d → oj.dst = some d → i = j := by
  induction l with
  | nil => intro i j oi oj d hi; simp at hi
  | cons o l ih =>
    have hsub : (l.filterMap (·.dst)).Nodup := by
      rw [List.filterMap_cons] at h
      cases hd : o.dst with
      | none => rw [hd] at h; exact h
      | some e => rw [hd] at h; exact (List.nodup_cons.1 h).2
    have hout : ∀ (j : Nat) (oj : Oper) (d : Tmp), l[j]? = some oj → oj.dst = some d → o.dst ≠ some d := by
      intro j oj d hj hd ho
      rw [List.filterMap_cons, ho] at h
      exact (List.nodup_cons.1 h).1 (List.mem_filterMap.2 ⟨oj, List.mem_of_getElem? hj, hd⟩)
    intro i j oi oj d hi hj hdi hdj
    cases i with
    | zero =>
      cases j with
      | zero => rfl
      | succ j =>
        have e : o = oi := by simpa using hi
        subst e
        exact absurd hdi (hout j oj d (by simpa using hj) hdj)
    | succ i =>
      cases j with
      | zero =>
        have e : o = oj := by simpa using hj
        subst e
        exact absurd hdj (hout i oi d (by simpa using hi) hdi)
      | succ j => exact congrArg (· + 1) (ih hsub i j oi oj d (by simpa using hi) (by simpa using hj) hdi hdj)
theorem mem_dsts {i : Nat} {o : Oper} {d : Tmp} (ho : ops[i]? = some o) (hd : o.dst = some d) : (dsts ops).contains d = true := by
  unfold dsts
  rw [List.contains_iff_mem]
  exact List.mem_filterMap.2 ⟨o, List.mem_of_getElem? (by rw [Array.getElem?_toList]; exact ho), hd⟩
theorem put_at {a : Act} {d : Tmp} {v : Value} (h : d < a.tmps.size) : (a.put (some d) v).tmps.getD d undef = v := by
  simp [Act.put, h]
theorem put_else {a : Act} {d : Option Tmp} {t : Tmp} {v : Value} (h : d ≠ some t) : (a.put d v).tmps.getD t undef = a.tmps.getD t undef := by
  cases d with
  | none => rfl
  | some e =>
    have : e ≠ t := fun x => h (by rw [x])
    simp [Act.put, this]
theorem put_size {a : Act} {d : Option Tmp} {v : Value} : (a.put d v).tmps.size = a.tmps.size := by
  cases d <;> simp [Act.put]
theorem put_defers {a : Act} {d : Option Tmp} {v : Value} : (a.put d v).defers = a.defers := by
  cases d <;> rfl
/-- A region that draws its order, each operation shown once. J: what holds of the world all the while; Ext: what one operation may do to it; F i: what operation i yields, a fact that stays true. -/
theorem wp_region_facts {id : Nat} {l : List Oper} {a : Act} {w : World} (J : World → Prop) (Ext : World → World → Prop) (F : Nat → World → Value → Prop)
    (hm : P.follows .mixedOrders = true) (ht : topoB .any l.toArray = true) (hn : (dsts l.toArray).Nodup) (hsz : (dsts l.toArray).all (· < a.tmps.size) = true)
    (hmono : ∀ i w w' v, Ext w w' → F i w v → F i w' v) (hJ : J w.drew)
    (hop : AllOps (fun i o => ∀ (ρ : Operand → Value) (w' : World), J w' → (∀ v, ρ (.const v) = v) → (∀ f, ρ (.func f) = .func (.func f) #[] #[]) → Known .any l.toArray F a.tmps ρ w' o → Runs P o ρ w' fun w2 v => J w2 ∧ Ext w' w2 ∧ F i w2 v) 0 l)
    (hfin : ∀ a' w', J w' → a'.defers = a.defers → a'.tmps.size = a.tmps.size → (∀ i o d, l.toArray[i]? = some o → o.dst = some d → F i w' (a'.tmps.getD d undef)) → (∀ t, (dsts l.toArray).contains t = false → a'.tmps.getD t undef = a.tmps.getD t undef) → Q .normal a' w') :
    (Code.region id l.toArray true).wp P Q a w := by
  refine wp_region_any hm (wpAny_inv (Inv .any l.toArray J F a) ?_ ?_ _ _ _ _ (by simp) ?_ ?_)
  · intro listed a1 w1 i hs hinv hir
    obtain ⟨o, ho, h2, h3⟩ := ready_spec hir
    unfold wpOp
    rw [ho]
    have hg := topo_guard ht ho
    have hw : Region.wanted o (yielded l.toArray a1.tmps) = true := by unfold Region.wanted; rw [hg]
    simp only [hw, if_true]
    refine .inl ?_
    have hgo := AllOps.get l 0 hop i o (by rw [← List.getElem?_toArray]; exact ho)
    rw [Nat.zero_add] at hgo
    have hk : Known .any l.toArray F a.tmps a1.eval w1 o := by
      refine ⟨fun e he hb oj hj d hd => hinv.fact e.on oj d (h3 e (by simpa using he) hb) hj hd, fun t htt => ?_⟩
      exact hinv.rest t htt
    refine (hgo a1.eval w1 hinv.world (fun _ => rfl) (fun _ => rfl) hk).wp ?_
    rintro w2 v ⟨hj2, he2, hf2⟩
    have hli : i < listed.size := by rw [hs]; exact (Array.getElem?_eq_some_iff.1 ho).1
    refine ⟨hj2, put_defers.trans hinv.defers, put_size.trans hinv.size, ?_, ?_⟩
    · intro j oj d hlj hoj hdj
      by_cases hij : i = j
      · subst hij
        have : o = oj := Option.some.inj (ho.symm.trans hoj)
        subst this
        rw [hdj, put_at (by
          have h5 := List.all_eq_true.1 hsz d (by rw [← List.contains_iff_mem]; exact mem_dsts ho hdj)
          rw [hinv.size]
          simpa using h5)]
        exact hf2
      · have hne : o.dst ≠ some d := fun e => hij (nodup_dst hn i j o oj d (by rw [← List.getElem?_toArray]; exact ho) (by rw [← List.getElem?_toArray]; exact hoj) e hdj)
        rw [put_else hne]
        refine hmono j _ _ _ he2 (hinv.fact j oj d ?_ hoj hdj)
        rw [Array.getD_eq_getD_getElem?, Array.getElem?_setIfInBounds, if_neg hij, ← Array.getD_eq_getD_getElem?] at hlj
        exact hlj
    · intro t htt
      have hne : o.dst ≠ some t := fun e => by rw [mem_dsts ho e] at htt; cases htt
      rw [put_else hne]
      exact hinv.rest t htt
  · intro listed a1 w1 hs hinv hr
    have hall := topo_all ht hs hr
    exact hfin a1 w1 hinv.world hinv.defers hinv.size (fun i o d ho hd => hinv.fact i o d (hall i (Array.getElem?_eq_some_iff.1 ho).1) ho hd) hinv.rest
  · unfold unl
    refine Nat.le_trans (List.length_filter_le _ _) ?_
    simp
  · refine ⟨hJ, rfl, rfl, ?_, fun _ _ => rfl⟩
    intro i o d hl
    rw [Array.getD_eq_getD_getElem?, Array.getElem?_replicate] at hl
    split at hl <;> cases hl
end Go.Proofs.YtdgbililgkhjfaaDoor.Draw
