/- The program's All over its iterator: walked. Condition: the world holds the table. -/
import Derived.Test.YtgmnojignnjejaaDoorFrameF
namespace Go.Proofs.YtgmnojignnjejaaDoor.Frame
open Go.RowKit Go.Shelf Go.Proofs.YtgmnojignnjejaaDoor.Crc Go.Proofs.YtgmnojignnjejaaDoor.Codec Go.Proofs.YtgmnojignnjejaaDoor.CrcWalk
attribute [local go_sem] Oper.semAt_some
set_option linter.unusedVariables false
/-! Within a round: a region without a defer statement goes as everywhere. -/
theorem upon_in {l n : Nat} {P : Program} {o : Oper} {a : Act} {K : Act → World → Prop} {Q : Exit → Act → World → Prop} (r : Result Next) (h : o.upon P a K Q r) : o.uponIn (Fence.wide.inRound l) n P a K Q r := by
  cases r with
  | ok x w =>
    cases x with
    | value v => exact h
    | skip => exact h
    | defer d => exact h
    | enter f args => exact ⟨(by intro hh; cases hh), CallsIn.inRound l (callsIn_wide.2 h)⟩
    | row row args => exact ⟨(by intro hh; cases hh), fun c cs _ => let ⟨v, w', r, s⟩ := h c cs; ⟨v, w', r, stepsIn_wide.2 s⟩⟩
    | _ => exact h.elim
  | halt e w => cases e <;> first | exact h | exact h.elim
def noDefer (o : Oper) : Bool := match o.op with | .defer _ => false | _ => true
theorem any_in {l n : Nat} {P : Program} {md : Region.Mode} {ops : Array Oper} {Q : Exit → Act → World → Prop} (hd' : ops.all noDefer = true) (hno : ¬ LetsOut Q) :
    ∀ (fuel : Nat) (listed : Array Bool) (a : Act) (w : World), wpAny P md ops Q fuel listed a w → wpAnyIn (Fence.wide.inRound l) n P md ops Q fuel listed a w := by
  have hd : ∀ (i : Nat) (o : Oper), ops[i]? = some o → ∀ c, o.op ≠ .defer c := by
    intro i o ho c e
    have := Array.all_eq_true'.1 hd' o (Array.mem_of_getElem? ho)
    unfold noDefer at this
    rw [e] at this; cases this
  intro fuel
  induction fuel with
  | zero => exact fun _ _ _ h => h
  | succ fuel ih =>
    intro listed a w h
    refine ⟨h.1, fun i hi => ?_⟩
    have h2 := h.2 i hi
    unfold wpOp at h2
    unfold wpOpIn
    cases ho : ops[i]? with
    | none => simp only [ho] at h2 ⊢; exact ih _ _ _ h2
    | some o =>
      simp only [ho] at h2 ⊢
      by_cases hw : Region.wanted o (yielded ops a.tmps) = true
      · rw [if_pos hw] at h2 ⊢
        rcases h2 with h2 | h2
        · refine ⟨fun _ _ => trivial, ?_⟩
          have e : o.semAt (Fence.wide.inRound l).round a.eval = execOp a.eval o := Oper.semAt_some l _ _ (hd i o ho)
          rw [e]
          exact upon_in _ (Oper.wp_mono (fun a w hh => ih _ _ _ hh) h2)
        · exact absurd h2.2 hno
      · rw [if_neg hw] at h2 ⊢
        exact ⟨fun _ _ => trivial, ih _ _ _ h2⟩
/-- Where the last of some steps ends. -/
def lastTo (pre : List Stp) : Nat := (pre.getLast?.map fun x => x.2.1).getD 0
def allOk (pre : List Stp) : Prop := ∀ x ∈ pre, x.2.2 = 0
theorem lastTo_snoc (pre : List Stp) (x : Stp) : lastTo (pre ++ [x]) = x.2.1 := by simp [lastTo]
/-- The block of a round's variable: three cells. -/
def BoxedX (W : World) (B : Nat) (x : Stp) : Prop := W.heap[B]? = some (.cells #[.string (bs x.1), .int .i64 (x.2.1 : Nat), .int .i64 x.2.2] 68 (0, 0))
theorem boxedX_turn {X Y : World} {B Bd : Nat} {x : Stp} {row : Option Nat} (h : BoxedX X B x) (hg : X.grownBy Y row) (hr : ∀ r, row = some r → Bd ≤ r ∧ ∃ o : Obj, X.heap[r]? = some o ∧ o.isCells = false) : BoxedX Y B x := by
  refine (hg.block B (Array.getElem?_eq_some_iff.1 h).1 (fun e => ?_)).trans h
  obtain ⟨_, o, ho, hc⟩ := hr B e.symm
  rw [show X.heap[B]? = _ from h] at ho; cases ho; cases hc
theorem BoxedX.cells {W : World} {B : Nat} {x : Stp} (h : BoxedX W B x) : W.cell? ⟨B, 0, none⟩ = some (.string (bs x.1)) ∧ W.cell? ⟨B, 1, none⟩ = some (.int .i64 (x.2.1 : Nat)) ∧ W.cell? ⟨B, 2, none⟩ = some (.int .i64 x.2.2) := by
  have hb : W.heap[B]? = _ := h
  refine ⟨?_, ?_, ?_⟩ <;> rw [cell_of_row W B _ _ _ (0, 0) hb] <;> rfl
/-- What the function's own variables hold: so many steps were taken. -/
structure StA (s : ByteArray) (n0 : Nat) (w : World) (q : List Stp) (E : Int) (W : World) : Prop where
  l : ∃ v, Boxed W n0 41 v ∧ W.ownsRow (n0 + 4) 9 1 v q.length (q.map fun x => sc x.1) ∧ True
  u : Boxed W (n0 + 1) 3 (.int .i64 (lastTo q : Nat))
  e : Boxed W (n0 + 1 + 1) 23 (.int .i64 E)
  s : Boxed W (n0 + 1 + 1 + 1) 9 (.string s)
  b : Below n0 w W
theorem StA.turn {s : ByteArray} {n0 Bd : Nat} {w X Y : World} {q : List Stp} {E : Int} {row : Option Nat} (h : StA s n0 w q E X) (hg : X.grownBy Y row) (hr : ∀ r, row = some r → Bd ≤ r ∧ ∃ o : Obj, X.heap[r]? = some o ∧ o.isCells = false) (hn : n0 ≤ Bd) (hn' : n0 ≤ w.heap.size) : StA s n0 w q E Y := by
  have hr' := fun r e => (hr r e).2
  exact ⟨holdsRow_own (n0 + 4) n0 41 9 1 (fun q : List Stp => q.length) (fun q => q.map fun x => sc x.1) (fun _ _ => True) q X Y row h.l hg hr', boxed_own (n0 + 1) 3 (fun _ : Unit => Value.int .i64 (lastTo q : Nat)) () X Y row h.u hg hr',
    boxed_own (n0 + 1 + 1) 23 (fun _ : Unit => Value.int .i64 E) () X Y row h.e hg hr', boxed_own (n0 + 1 + 1 + 1) 9 (fun _ : Unit => Value.string s) () X Y row h.s hg hr', h.b.grown hg (Nat.le_trans hn' h.b.size) (fun k e => Nat.le_trans hn (hr k e).1)⟩
/-- Two such states: what a round must keep is kept. -/
theorem kst_of {n0 : Nat} {X Y : World} {s : ByteArray} (h : Boxed X (n0 + 1 + 1 + 1) 9 (.string s)) (h' : Boxed Y (n0 + 1 + 1 + 1) 9 (.string s)) (hb : Below n0 X Y) (hg : 0 < n0) : Kst (n0 + 1 + 1 + 1) X Y := by
  refine ⟨fun v hv => ?_, fun hT i hi => ?_⟩
  · have e := (show X.heap[n0 + 1 + 1 + 1]? = _ from h).symm.trans hv
    have ev : Value.string s = v := by simpa using e
    rw [← ev]; exact h'
  · exact (hb.cell (p := ⟨0, i, none⟩) hg).trans (hT i hi)
theorem row_ge {W : World} {base n size b : Nat} {e : TypeId} {v : Value} {xs : List Value} (h : W.ownsRow base e size v n xs) (hb : b < base) : some b ≠ v.ownBlock := by
  intro e'
  have := (h.lt b e'.symm).1
  omega
theorem row_far {W : World} {base n size b : Nat} {e : TypeId} {v x : Value} {xs : List Value} (h : W.ownsRow base e size v n xs) (hb : b < base) : (W.setCell ⟨b, 0, none⟩ x).ownsRow base e size v n xs :=
  h.kept (grownBy_setCell' W b x) (.inr (row_ge h hb).symm)
theorem row_weak {W : World} {base base' n size : Nat} {e : TypeId} {v : Value} {xs : List Value} (h : W.ownsRow base e size v n xs) (hb : base' ≤ base) : W.ownsRow base' e size v n xs := by
  refine ⟨h.1, ?_⟩
  rcases h.2 with h2 | ⟨g, cap, cur, h1, h2, h3⟩
  · exact .inl h2
  · exact .inr ⟨g, cap, cur, h1, by omega, h3⟩
theorem boxed_drew {W : World} {B : Nat} {t : TypeId} {v : Value} (h : Boxed W B t v) : Boxed W.drew B t v := h
theorem row_drew {W : World} {base n size : Nat} {e : TypeId} {v : Value} {xs : List Value} (h : W.ownsRow base e size v n xs) : W.drew.ownsRow base e size v n xs := h
theorem below_drew {B : Nat} {A W : World} (h : Below B A W) : Below B A W.drew := ⟨h.os, h.tape, h.output, h.size, h.block⟩
/-- The three results are laid. -/
theorem StA.laid {s : ByteArray} {n0 : Nat} {w W : World} {q : List Stp} {E E' : Int} {v : Value} (h : StA s n0 w q E W) (hL : Boxed W n0 41 v) (hrow : W.ownsRow (n0 + 4) 9 1 v q.length (q.map fun x => sc x.1)) :
    StA s n0 w q E' (((W.setCell ⟨n0, 0, none⟩ v).setCell ⟨n0 + 1, 0, none⟩ (.int .i64 (lastTo q : Nat))).setCell ⟨n0 + 1 + 1, 0, none⟩ (.int .i64 E')).drew :=
  ⟨⟨v, boxed_drew (((hL.set v).other (by omega) _).other (by omega) _), row_drew (row_far (row_far (row_far hrow (by omega)) (by omega)) (by omega)), trivial⟩,
    boxed_drew (((h.u.other (by omega) _).set _).other (by omega) _), boxed_drew (((h.e.other (by omega) _).other (by omega) _).set _),
    boxed_drew (((h.s.other (by omega) _).other (by omega) _).other (by omega) _),
    below_drew (((h.b.setCell (p := ⟨n0, 0, none⟩) (Nat.le_refl _) _).setCell (p := ⟨n0 + 1, 0, none⟩) (by simp) _).setCell (p := ⟨n0 + 1 + 1, 0, none⟩) (by simp; omega) _)⟩
theorem keeps_laid (W : World) (n0 : Nat) (a b c : Value) : KeepsOthers W (((W.setCell ⟨n0, 0, none⟩ a).setCell ⟨n0 + 1, 0, none⟩ b).setCell ⟨n0 + 1 + 1, 0, none⟩ c).drew :=
  (((KeepsOthers.setCell _ _ _).trans (KeepsOthers.setCell _ _ _)).trans (KeepsOthers.setCell _ _ _)).trans (KeepsOthers.drew _)
/-- A further step was taken. -/
theorem StA.next {s : ByteArray} {n0 B1 g cap xt : Nat} {w W w1 : World} {pre : List Stp} {xp : List UInt8} {v : Value} {o : Obj} (h : StA s n0 w pre 0 W) (hL : Boxed W n0 41 v) (hrow : W.ownsRow (n0 + 4) 9 1 v pre.length (pre.map fun x => sc x.1)) (hn : n0 ≤ w.heap.size) (hg : 0 < n0)
    (hown1 : w1.ownsRow (n0 + 4) 9 1 (.slice (some ⟨g, 0, none⟩) (pre.length + 1) cap) (pre.length + 1) ((pre.map fun x => sc x.1) ++ [sc xp])) (hgrow : (W.alloc o).drew.grownBy w1 v.ownBlock) :
    KeepsFrom B1 W ((w1.setCell ⟨n0, 0, none⟩ (.slice (some ⟨g, 0, none⟩) (pre.length + 1) cap)).setCell ⟨n0 + 1, 0, none⟩ (.int .i64 (xt : Nat))) ∧
    Kst (n0 + 1 + 1 + 1) W ((w1.setCell ⟨n0, 0, none⟩ (.slice (some ⟨g, 0, none⟩) (pre.length + 1) cap)).setCell ⟨n0 + 1, 0, none⟩ (.int .i64 (xt : Nat))) ∧
    StA s n0 w (pre ++ [(xp, xt, (0 : Int))]) 0 ((w1.setCell ⟨n0, 0, none⟩ (.slice (some ⟨g, 0, none⟩) (pre.length + 1) cap)).setCell ⟨n0 + 1, 0, none⟩ (.int .i64 (xt : Nat))) := by
  have hg' : (W.alloc o).grownBy w1 v.ownBlock := ⟨hgrow.os, hgrow.tape, hgrow.output, hgrow.size, hgrow.block⟩
  have hsz := h.b.size
  obtain ⟨p1, p2, p3, p4, p5⟩ := hL.appended (by decide) (row_weak hrow (Nat.le_add_right n0 4)) (Nat.le_trans hn hsz) (Nat.le_refl n0) (row_weak hown1 (Nat.le_add_right n0 4)) hg'
  have qU : Boxed w1 (n0 + 1) 3 _ := (h.u.alloc o).kept hg' (row_ge hrow (by omega))
  have qE : Boxed w1 (n0 + 1 + 1) 23 _ := (h.e.alloc o).kept hg' (row_ge hrow (by omega))
  have qS : Boxed w1 (n0 + 1 + 1 + 1) 9 _ := (h.s.alloc o).kept hg' (row_ge hrow (by omega))
  have hb := p5.setCell (p := ⟨n0 + 1, 0, none⟩) (by simp) (.int .i64 (xt : Nat))
  have hS : StA s n0 w (pre ++ [(xp, xt, (0 : Int))]) 0 ((w1.setCell ⟨n0, 0, none⟩ (.slice (some ⟨g, 0, none⟩) (pre.length + 1) cap)).setCell ⟨n0 + 1, 0, none⟩ (.int .i64 (xt : Nat))) :=
    ⟨⟨_, p2.other (by omega) _, by simpa using row_far (row_far hown1 (by omega)) (by omega), trivial⟩, by rw [lastTo_snoc]; exact (qU.other (by omega) _).set _, (qE.other (by omega) _).other (by omega) _, (qS.other (by omega) _).other (by omega) _, h.b.trans hb⟩
  exact ⟨(p4.trans (KeepsOthers.setCell _ _ _)).from _, kst_of h.s hS.s hb hg, hS⟩
def lastFrom (a : Nat) (q : List Stp) : Nat := (q.getLast?.map fun x => x.2.1).getD a
theorem lastFrom_cons (a : Nat) (x : Stp) (t : List Stp) : lastFrom a (x :: t) = lastFrom x.2.1 t := by
  unfold lastFrom
  cases t with
  | nil => rfl
  | cons y t => rw [List.getLast?_cons_cons]; cases h : (y :: t).getLast? with
    | none => simp at h
    | some z => rfl
theorem faS_ok (k : Nat) : ∀ (l : List UInt8) (a : Nat), allOk (faS k l a) → faP k l = (faS k l a).map (fun x => x.1) ∧ a + faU k l = lastFrom a (faS k l a) ∧ faE k l = 0 := by
  induction k with
  | zero => intro l a _; exact ⟨rfl, rfl, rfl⟩
  | succ k ih =>
    intro l a h
    by_cases hl : l = []
    · simp [faS, faP, faU, faE, hl, lastFrom]
    · simp only [faS, faP, faU, faE, if_neg hl] at h ⊢
      by_cases he : fnE l = 0
      · simp only [if_pos he] at h ⊢
        obtain ⟨i1, i2, i3⟩ := ih (l.drop (fnU l)) (a + fnU l) (fun x hx => h x (List.mem_cons_of_mem _ hx))
        refine ⟨by rw [i1]; rfl, by rw [lastFrom_cons, ← i2]; omega, i3⟩
      · exact absurd (h _ (List.mem_cons_self ..)) he
theorem faS_stop (k : Nat) : ∀ (l : List UInt8) (a : Nat) (q : List Stp) (x : Stp), q ++ [x] <+: faS k l a → allOk q → x.2.2 ≠ 0 → faP k l = q.map (fun x => x.1) ∧ a + faU k l = lastFrom a q ∧ faE k l = x.2.2 := by
  induction k with
  | zero => intro l a q x h; simp [faS] at h
  | succ k ih =>
    intro l a q x h ho hx
    by_cases hl : l = []
    · simp only [faS, if_pos hl] at h; simp at h
    · simp only [faS, faP, faU, faE, if_neg hl] at h ⊢
      by_cases he : fnE l = 0
      · simp only [if_pos he] at h ⊢
        cases q with
        | nil =>
          obtain ⟨e, _⟩ := List.cons_prefix_cons.1 h
          exact absurd (by rw [e]; exact he) hx
        | cons z q =>
          obtain ⟨e, h2⟩ := List.cons_prefix_cons.1 h
          obtain ⟨i1, i2, i3⟩ := ih (l.drop (fnU l)) (a + fnU l) q x h2 (fun y hy => ho y (List.mem_cons_of_mem _ hy)) hx
          refine ⟨by rw [i1, e]; rfl, by rw [lastFrom_cons, e, ← i2]; omega, i3⟩
      · simp only [if_neg he] at h ⊢
        cases q with
        | nil =>
          obtain ⟨e, _⟩ := List.cons_prefix_cons.1 h
          exact ⟨rfl, rfl, by rw [e]⟩
        | cons z q =>
          obtain ⟨_, h2⟩ := List.cons_prefix_cons.1 h
          simp at h2
/-- What the results are. -/
theorem StA.ends {s : ByteArray} {n0 : Nat} {w W : World} {q : List Stp} {E : Int} (h : StA s n0 w q E W) {k : Nat} {l : List UInt8} (hp : faP k l = q.map (fun x => x.1)) (hu : faU k l = lastTo q) (he : faE k l = E) :
    ∃ v, W.cell? ⟨n0, 0, none⟩ = some v ∧ W.cell? ⟨n0 + 1, 0, none⟩ = some (.int .i64 (lastTo q : Nat)) ∧ W.cell? ⟨n0 + 1 + 1, 0, none⟩ = some (.int .i64 E) ∧
      ((∃ v', Ending.returned (Value.tuple #[v, .int .i64 (lastTo q : Nat), .int .i64 E]) = .returned (.tuple #[v', .int .i64 (faU k l : Nat), .int .i64 (faE k l)]) ∧ W.ownsRow n0 9 1 v' (faP k l).length ((faP k l).map sc)) ∧ Below n0 w W) := by
  obtain ⟨⟨v, h1, h2, _⟩, h3, h4, _, h5⟩ := h
  refine ⟨v, h1.cell, h3.cell, h4.cell, ⟨v, by rw [hu, he], ?_⟩, h5⟩
  have := row_weak h2 (Nat.le_add_right n0 4)
  rw [hp, List.length_map, List.map_map]
  exact this
theorem tab_lt {w : World} (h : Tab w) : 0 < w.heap.size := World.block_lt_of_cell? w _ (h 0 (by omega))
set_option maxRecDepth 100000 in
set_option maxHeartbeats 2000000 in
/-- What 'All' answers. -/
theorem all_any (s : ByteArray) (w : World) (hs : s.size ≤ 1000000) (hT : Tab w) :
    Calls Tryd.prog 16 #[.string s] w fun r w' => (∃ v, r = .returned (.tuple #[v, .int .i64 (faU s.size s.data.toList : Nat), .int .i64 (faE s.size s.data.toList)]) ∧ w'.ownsRow w.heap.size 9 1 v (faP s.size s.data.toList).length ((faP s.size s.data.toList).map sc)) ∧ Below w.heap.size w w' := by
  obtain ⟨i0, hi, hz0, hz1, hz2⟩ := info_parts info9
  refine (callsIn_wide (n := 3)).1 ?_
  have h1 : (1 : Nat) ≤ 3 := by omega
  refine callsIn_of_wp_marks Tryd.func16 rfl trivial ?_ rfl
  simp only [Tryd.ntmps16, List.size_toArray, List.length_cons, List.length_nil, Nat.reduceAdd, Nat.reduceSub, Array.replicate_succ, Array.replicate_zero, List.push_toArray, List.append_toArray, List.nil_append, List.cons_append]
  gi_wp2_with (refine ⟨trivial, ?_⟩; refine (steps_in _ s _).mono ?_; rintro e w' ⟨rfl, rfl⟩)
  have bL := (((Boxed.new w 41 (.slice none 0 0)).alloc (.cells #[.int .i64 0] 3)).alloc (.cells #[.int .i64 0] 23)).alloc (.cells #[.string s] 9)
  have bU := ((Boxed.new (w.alloc (.cells #[.slice none 0 0] 41)) 3 (.int .i64 0)).alloc (.cells #[.int .i64 0] 23)).alloc (.cells #[.string s] 9)
  have bE := (Boxed.new ((w.alloc (.cells #[.slice none 0 0] 41)).alloc (.cells #[.int .i64 0] 3)) 23 (.int .i64 0)).alloc (.cells #[.string s] 9)
  have bN := Boxed.new (((w.alloc (.cells #[.slice none 0 0] 41)).alloc (.cells #[.int .i64 0] 3)).alloc (.cells #[.int .i64 0] 23)) 9 (.string s)
  simp only [World.size_alloc] at bU bE bN
  have hB0 : Below w.heap.size w ((((w.alloc (.cells #[.slice none 0 0] 41)).alloc (.cells #[.int .i64 0] 3)).alloc (.cells #[.int .i64 0] 23)).alloc (.cells #[.string s] 9)) := ((((Below.refl _ w).alloc (Nat.le_refl _) _).alloc (by simp) _).alloc (by simp; omega) _).alloc (by simp; omega) _
  have hsz : ((((w.alloc (.cells #[.slice none 0 0] 41)).alloc (.cells #[.int .i64 0] 3)).alloc (.cells #[.int .i64 0] 23)).alloc (.cells #[.string s] 9)).heap.size = w.heap.size + 4 := by simp
  obtain ⟨W0, hW0⟩ : ∃ W0, (((w.alloc (.cells #[.slice none 0 0] 41)).alloc (.cells #[.int .i64 0] 3)).alloc (.cells #[.int .i64 0] 23)).alloc (.cells #[.string s] 9) = W0 := ⟨_, rfl⟩
  rw [hW0] at bL bU bE bN hB0 hsz ⊢
  clear hW0
  have hT0 : Tab W0 := tab_below hT hB0
  have hg := tab_lt hT
  refine wpIn_rangeFunc_ownH rfl h1 (gf := 38) (lb := #[.pointer (some ⟨w.heap.size + 1 + 1 + 1, 0, none⟩)]) rfl trivial (enters_of Tryd.func38 (by kernel_rfl) rfl)
    (steps_stops 2 (by omega) (w.heap.size + 1 + 1 + 1) s hs W0 bN hT0) kst_t kst_b (Below.refl _ _) (fun _ => rfl)
    (fun pre W => allOk pre ∧ StA s w.heap.size w pre 0 W)
    (fun c pre W => c = .ret ∧ ∃ q x, pre = q ++ [x] ∧ allOk q ∧ x.2.2 ≠ 0 ∧ StA s w.heap.size w q x.2.2 W)
    (fun pre X Y row hs hg hr => ⟨hs.1, hs.2.turn hg hr (by omega) (Nat.le_refl _)⟩)
    (fun c pre X Y row hs hg hr => by obtain ⟨rfl, q, x, h1, h2, h3, h4⟩ := hs; exact ⟨rfl, q, x, h1, h2, h3, h4.turn hg hr (by omega) (Nat.le_refl _)⟩)
    ⟨by intro x hx; simp at hx, ⟨_, bL, World.ownsRow_nil _ _ _ _, trivial⟩, bU, bE, bN, hB0⟩
    (fun x a' W => ∃ Bx, w.heap.size + 4 ≤ Bx ∧ BoxedX W Bx x ∧ a' = { tmps := #[.string s, undef, .pointer (some ⟨w.heap.size, 0, none⟩), .pointer (some ⟨w.heap.size + 1, 0, none⟩), .pointer (some ⟨w.heap.size + 1 + 1, 0, none⟩), .pointer (some ⟨Bx, 0, none⟩), .string s, .func (.func 38) #[] #[.pointer (some ⟨w.heap.size + 1 + 1 + 1, 0, none⟩)], encS x, undef, undef, undef, undef, undef, undef, undef, undef, undef, undef, undef, undef, undef, undef, undef, undef], defers := [] })
    (fun x a' _ X Y row hs hg hr => by obtain ⟨Bx, h1, h2, h3⟩ := hs; exact ⟨Bx, h1, boxedX_turn h2 hg hr, h3⟩)
    ?assign ?body ?done ?stop
  case assign =>
    rintro l pre ⟨xp, xt, xe⟩ W K ⟨ho, hS⟩ hK
    dsimp only [encS] at hK ⊢
    gi_wp2
    have hS' := hS.turn (World.grownBy_alloc W (.cells #[.string (bs xp), .int .i64 (xt : Nat), .int .i64 xe] 68) none) (Bd := w.heap.size) (fun r e => by cases e) (Nat.le_refl _) (Nat.le_refl _)
    exact hK _ _ ((KeepsOthers.alloc _ _).from _) (kst_of hS.s hS'.s ((Below.refl _ W).alloc hS.b.size _) hg) ⟨ho, hS'⟩ ⟨W.heap.size, by have := hS.s.lt; omega, heap_alloc_new W _, rfl⟩
  case body =>
    rintro l pre ⟨xp, xt, xe⟩ a' W hl ⟨r, hr⟩ ⟨ho, hS⟩ ⟨Bx, hBx, bX, rfl⟩ hlt
    obtain ⟨⟨v, bL1, hrow, _⟩, bU1, bE1, bS1, hB1⟩ := hS
    obtain ⟨b1, c1, rfl⟩ := row_slice hrow
    obtain ⟨x0, x1, x2⟩ := bX.cells
    have cL := bL1.cell
    have cU := bU1.cell
    have cE := bE1.cell
    have fL := bL1.frozen
    have fU := bU1.frozen
    have fE := bE1.frozen
    have hmx : Tryd.prog.follows .mixedOrders = true := by kernel_rfl
    dsimp only [encS] at x0 x1 x2 ⊢
    have hok : xe = 0 → allOk (pre ++ [(xp, xt, xe)]) := by
      intro e y hy
      rcases List.mem_append.1 hy with hy | hy
      · exact ho y hy
      · rw [List.mem_singleton] at hy; rw [hy]; exact e
    have hone : ∀ u ∈ [sc xp], u.oneCell' = true := by intro u hu; rw [List.mem_singleton] at hu; rw [hu]; rfl
    have hlen1 : pre.length + 1 ≤ maxLen := by unfold maxLen; omega
    have hlen2 : (pre.length + 1) * 16 ≤ 140737488355328 := by omega
    have hWs : w.heap.size + 4 ≤ W.heap.size := by have := bS1.lt; omega
    have hS0 : StA s w.heap.size w pre 0 W := ⟨⟨_, bL1, hrow, trivial⟩, bU1, bE1, bS1, hB1⟩
    have hneX : some Bx ≠ (Value.slice b1 pre.length c1).ownBlock := by
      intro e
      obtain ⟨_, h2⟩ := hrow
      rcases h2 with ⟨h2, _⟩ | ⟨g, cap, cur, h2, _, h3, _⟩
      · rw [h2] at e; cases e
      · rw [h2] at e
        have e2 : Bx = g := by simpa [Value.ownBlock] using e
        rw [← e2, show W.heap[Bx]? = _ from bX] at h3
        simp at h3
    have hfar : ∀ w1, (W.alloc (.cells #[sc xp] 9)).drew.grownBy w1 (Value.slice b1 pre.length c1).ownBlock → w1.cell? ⟨w.heap.size, 0, none⟩ = some (.slice b1 pre.length c1) ∧ w1.frozen? ⟨w.heap.size, 0, none⟩ = false ∧ w1.cell? ⟨w.heap.size + 1, 0, none⟩ = some (.int .i64 (lastTo pre : Nat)) ∧ w1.frozen? ⟨w.heap.size + 1, 0, none⟩ = false ∧ w1.cell? ⟨Bx, 1, none⟩ = some (.int .i64 (xt : Nat)) ∧ (w1.cell? ⟨w.heap.size, 0, none⟩).isSome = true ∧ (w1.cell? ⟨w.heap.size + 1, 0, none⟩).isSome = true := by
      intro w1 hgrow
      have hg' : (W.alloc (.cells #[sc xp] 9)).grownBy w1 (Value.slice b1 pre.length c1).ownBlock := ⟨hgrow.os, hgrow.tape, hgrow.output, hgrow.size, hgrow.block⟩
      have qL : Boxed w1 w.heap.size 41 _ := (bL1.alloc _).kept hg' (row_ge hrow (by omega))
      have qU : Boxed w1 (w.heap.size + 1) 3 _ := (bU1.alloc _).kept hg' (row_ge hrow (by omega))
      have hXl : Bx < W.heap.size := (Array.getElem?_eq_some_iff.1 bX).1
      have qX : BoxedX w1 Bx (xp, xt, xe) := ((hg'.block Bx (by simp; omega) hneX).trans (Below.heap_alloc W _ Bx hXl)).trans bX
      refine ⟨qL.cell, qL.frozen, qU.cell, qU.frozen, qX.cells.2.1, ?_, ?_⟩
      · rw [qL.cell]; rfl
      · rw [qU.cell]; rfl
    have a0 := (World.grownBy_alloc W (.cells #[.string (bs xp)] 9) none).cell cL (by simp)
    have a1 := (World.grownBy_alloc W (.cells #[.string (bs xp)] 9) none).cell x1 (by simp)
    by_cases he : xe = 0
    · subst he
      have hok1 := hok rfl
      clear hok
      gi_wp2_with fail
      refine wpIn_region_any (by kernel_rfl) ?_
      refine any_in (by kernel_rfl) (by rintro ⟨_, _, h⟩; exact h) _ _ _ _ ?_
      change wpAny _ _ _ _ _ _ _ (World.drew _)
      refine wpAny_take (i := 1) (v := .pointer (some ⟨Bx, 0, none⟩)) rfl (by kernel_rfl) (by kernel_rfl) (by kernel_rfl) (fun _ _ _ h => h) (Or.inl ⟨by rfl, by intro w; go_simp⟩) ?_
      refine wpAny_take (i := 5) (v := .pointer (some ⟨Bx, 1, none⟩)) rfl (by kernel_rfl) (by kernel_rfl) (by kernel_rfl) (fun _ _ _ h => h) (Or.inl ⟨by rfl, by intro w; go_simp⟩) ?_
      refine wpAny_ready (rs := [0, 2, 6]) (by kernel_rfl) (by simp) ?_
      refine AllReady.cons rfl (fun K hK => ?_) ?_
      · go_simp
        refine hK _ _ ?_; clear hK K
        refine wpAny_ready (rs := [2, 6]) (by kernel_rfl) (by simp) ?_
        refine AllReady.cons rfl (fun K hK => ?_) ?_
        · go_simp
          refine hK _ _ ?_; clear hK K
          refine wpAny_ready (rs := [3, 6]) (by kernel_rfl) (by simp) ?_
          refine AllReady.cons rfl (fun K hK => ?_) ?_
          · go_simp
            refine hK _ _ ?_; clear hK K
            refine wpAny_ready (rs := [4, 6]) (by kernel_rfl) (by simp) ?_
            refine AllReady.cons rfl (fun K hK => ?_) ?_
            · refine step_append_lies _ (by rfl) (.tmp 16) (.tmp 19) 41 (by rfl) (w.heap.size + 4) 9 i0 (.string ⟨#[]⟩) 1 16 Tryd.underlying41 hi hz0 hz1 hz2 rfl (by decide) _ _ _ (by rfl) ((hrow.alloc _).drew) ⟨W.heap.size, 0, none⟩ 1 1 [sc xp] (by rfl) (by rfl) (World.news_of_block (cs := #[sc xp]) (t := 9) (fr := (0, 0)) (heap_alloc_new W _)) hone (by decide) hlen1 hlen2 (by simp; omega) (W.heap.size + 1) (by simp) ?_
              intro g cap w1 hown1 hgrow hat hlt1
              obtain ⟨k0, k1, k2, k3, k4, k5, k6⟩ := hfar _ hgrow
              try go_simp
              refine hK _ _ ?_; clear hK K
              refine wpAny_ready (rs := [6, 7]) (by kernel_rfl) (by simp) ?_
              refine AllReady.cons rfl (fun K hK => ?_) ?_
              · go_simp
                refine hK _ _ ?_; clear hK K
                refine wpAny_ready (rs := [7]) (by kernel_rfl) (by simp) ?_
                refine AllReady.cons rfl (fun K hK => ?_) ?_
                · go_simp
                  refine hK _ _ ?_; clear hK K
                  refine wpAny_ready (rs := [8]) (by kernel_rfl) (by simp) ?_
                  refine AllReady.cons rfl (fun K hK => ?_) ?_
                  · go_simp
                    refine hK _ _ ?_; clear hK K
                    refine wpAny_done (by kernel_rfl) ?_ _
                    obtain ⟨z1, z2, z3⟩ := StA.next (xt := xt) (B1 := W0.heap.size) hS0 bL1 hrow (Nat.le_refl _) hg hown1 hgrow
                    exact ⟨z1, z2, hok1, z3⟩
                  exact AllReady.nil
                exact AllReady.nil
              refine AllReady.cons rfl (fun K hK => ?_) ?_
              · go_simp
                refine hK _ _ ?_; clear hK K
                refine wpAny_ready (rs := [6]) (by kernel_rfl) (by simp) ?_
                refine AllReady.cons rfl (fun K hK => ?_) ?_
                · go_simp
                  refine hK _ _ ?_; clear hK K
                  refine wpAny_ready (rs := [8]) (by kernel_rfl) (by simp) ?_
                  refine AllReady.cons rfl (fun K hK => ?_) ?_
                  · go_simp
                    refine hK _ _ ?_; clear hK K
                    refine wpAny_done (by kernel_rfl) ?_ _
                    obtain ⟨z1, z2, z3⟩ := StA.next (xt := xt) (B1 := W0.heap.size) hS0 bL1 hrow (Nat.le_refl _) hg hown1 hgrow
                    exact ⟨z1, z2, hok1, z3⟩
                  exact AllReady.nil
                exact AllReady.nil
              exact AllReady.nil
            refine AllReady.cons rfl (fun K hK => ?_) ?_
            · go_simp
              refine hK _ _ ?_; clear hK K
              refine wpAny_ready (rs := [4]) (by kernel_rfl) (by simp) ?_
              refine AllReady.cons rfl (fun K hK => ?_) ?_
              · refine step_append_lies _ (by rfl) (.tmp 16) (.tmp 19) 41 (by rfl) (w.heap.size + 4) 9 i0 (.string ⟨#[]⟩) 1 16 Tryd.underlying41 hi hz0 hz1 hz2 rfl (by decide) _ _ _ (by rfl) ((hrow.alloc _).drew) ⟨W.heap.size, 0, none⟩ 1 1 [sc xp] (by rfl) (by rfl) (World.news_of_block (cs := #[sc xp]) (t := 9) (fr := (0, 0)) (heap_alloc_new W _)) hone (by decide) hlen1 hlen2 (by simp; omega) (W.heap.size + 1) (by simp) ?_
                intro g cap w1 hown1 hgrow hat hlt1
                obtain ⟨k0, k1, k2, k3, k4, k5, k6⟩ := hfar _ hgrow
                try go_simp
                refine hK _ _ ?_; clear hK K
                refine wpAny_ready (rs := [7]) (by kernel_rfl) (by simp) ?_
                refine AllReady.cons rfl (fun K hK => ?_) ?_
                · go_simp
                  refine hK _ _ ?_; clear hK K
                  refine wpAny_ready (rs := [8]) (by kernel_rfl) (by simp) ?_
                  refine AllReady.cons rfl (fun K hK => ?_) ?_
                  · go_simp
                    refine hK _ _ ?_; clear hK K
                    refine wpAny_done (by kernel_rfl) ?_ _
                    obtain ⟨z1, z2, z3⟩ := StA.next (xt := xt) (B1 := W0.heap.size) hS0 bL1 hrow (Nat.le_refl _) hg hown1 hgrow
                    exact ⟨z1, z2, hok1, z3⟩
                  exact AllReady.nil
                exact AllReady.nil
              exact AllReady.nil
            exact AllReady.nil
          refine AllReady.cons rfl (fun K hK => ?_) ?_
          · go_simp
            refine hK _ _ ?_; clear hK K
            refine wpAny_ready (rs := [3]) (by kernel_rfl) (by simp) ?_
            refine AllReady.cons rfl (fun K hK => ?_) ?_
            · go_simp
              refine hK _ _ ?_; clear hK K
              refine wpAny_ready (rs := [4]) (by kernel_rfl) (by simp) ?_
              refine AllReady.cons rfl (fun K hK => ?_) ?_
              · refine step_append_lies _ (by rfl) (.tmp 16) (.tmp 19) 41 (by rfl) (w.heap.size + 4) 9 i0 (.string ⟨#[]⟩) 1 16 Tryd.underlying41 hi hz0 hz1 hz2 rfl (by decide) _ _ _ (by rfl) ((hrow.alloc _).drew) ⟨W.heap.size, 0, none⟩ 1 1 [sc xp] (by rfl) (by rfl) (World.news_of_block (cs := #[sc xp]) (t := 9) (fr := (0, 0)) (heap_alloc_new W _)) hone (by decide) hlen1 hlen2 (by simp; omega) (W.heap.size + 1) (by simp) ?_
                intro g cap w1 hown1 hgrow hat hlt1
                obtain ⟨k0, k1, k2, k3, k4, k5, k6⟩ := hfar _ hgrow
                try go_simp
                refine hK _ _ ?_; clear hK K
                refine wpAny_ready (rs := [7]) (by kernel_rfl) (by simp) ?_
                refine AllReady.cons rfl (fun K hK => ?_) ?_
                · go_simp
                  refine hK _ _ ?_; clear hK K
                  refine wpAny_ready (rs := [8]) (by kernel_rfl) (by simp) ?_
                  refine AllReady.cons rfl (fun K hK => ?_) ?_
                  · go_simp
                    refine hK _ _ ?_; clear hK K
                    refine wpAny_done (by kernel_rfl) ?_ _
                    obtain ⟨z1, z2, z3⟩ := StA.next (xt := xt) (B1 := W0.heap.size) hS0 bL1 hrow (Nat.le_refl _) hg hown1 hgrow
                    exact ⟨z1, z2, hok1, z3⟩
                  exact AllReady.nil
                exact AllReady.nil
              exact AllReady.nil
            exact AllReady.nil
          exact AllReady.nil
        refine AllReady.cons rfl (fun K hK => ?_) ?_
        · go_simp
          refine hK _ _ ?_; clear hK K
          refine wpAny_ready (rs := [2]) (by kernel_rfl) (by simp) ?_
          refine AllReady.cons rfl (fun K hK => ?_) ?_
          · go_simp
            refine hK _ _ ?_; clear hK K
            refine wpAny_ready (rs := [3]) (by kernel_rfl) (by simp) ?_
            refine AllReady.cons rfl (fun K hK => ?_) ?_
            · go_simp
              refine hK _ _ ?_; clear hK K
              refine wpAny_ready (rs := [4]) (by kernel_rfl) (by simp) ?_
              refine AllReady.cons rfl (fun K hK => ?_) ?_
              · refine step_append_lies _ (by rfl) (.tmp 16) (.tmp 19) 41 (by rfl) (w.heap.size + 4) 9 i0 (.string ⟨#[]⟩) 1 16 Tryd.underlying41 hi hz0 hz1 hz2 rfl (by decide) _ _ _ (by rfl) ((hrow.alloc _).drew) ⟨W.heap.size, 0, none⟩ 1 1 [sc xp] (by rfl) (by rfl) (World.news_of_block (cs := #[sc xp]) (t := 9) (fr := (0, 0)) (heap_alloc_new W _)) hone (by decide) hlen1 hlen2 (by simp; omega) (W.heap.size + 1) (by simp) ?_
                intro g cap w1 hown1 hgrow hat hlt1
                obtain ⟨k0, k1, k2, k3, k4, k5, k6⟩ := hfar _ hgrow
                try go_simp
                refine hK _ _ ?_; clear hK K
                refine wpAny_ready (rs := [7]) (by kernel_rfl) (by simp) ?_
                refine AllReady.cons rfl (fun K hK => ?_) ?_
                · go_simp
                  refine hK _ _ ?_; clear hK K
                  refine wpAny_ready (rs := [8]) (by kernel_rfl) (by simp) ?_
                  refine AllReady.cons rfl (fun K hK => ?_) ?_
                  · go_simp
                    refine hK _ _ ?_; clear hK K
                    refine wpAny_done (by kernel_rfl) ?_ _
                    obtain ⟨z1, z2, z3⟩ := StA.next (xt := xt) (B1 := W0.heap.size) hS0 bL1 hrow (Nat.le_refl _) hg hown1 hgrow
                    exact ⟨z1, z2, hok1, z3⟩
                  exact AllReady.nil
                exact AllReady.nil
              exact AllReady.nil
            exact AllReady.nil
          exact AllReady.nil
        exact AllReady.nil
      refine AllReady.cons rfl (fun K hK => ?_) ?_
      · go_simp
        refine hK _ _ ?_; clear hK K
        refine wpAny_ready (rs := [0, 3, 6]) (by kernel_rfl) (by simp) ?_
        refine AllReady.cons rfl (fun K hK => ?_) ?_
        · go_simp
          refine hK _ _ ?_; clear hK K
          refine wpAny_ready (rs := [3, 6]) (by kernel_rfl) (by simp) ?_
          refine AllReady.cons rfl (fun K hK => ?_) ?_
          · go_simp
            refine hK _ _ ?_; clear hK K
            refine wpAny_ready (rs := [4, 6]) (by kernel_rfl) (by simp) ?_
            refine AllReady.cons rfl (fun K hK => ?_) ?_
            · refine step_append_lies _ (by rfl) (.tmp 16) (.tmp 19) 41 (by rfl) (w.heap.size + 4) 9 i0 (.string ⟨#[]⟩) 1 16 Tryd.underlying41 hi hz0 hz1 hz2 rfl (by decide) _ _ _ (by rfl) ((hrow.alloc _).drew) ⟨W.heap.size, 0, none⟩ 1 1 [sc xp] (by rfl) (by rfl) (World.news_of_block (cs := #[sc xp]) (t := 9) (fr := (0, 0)) (heap_alloc_new W _)) hone (by decide) hlen1 hlen2 (by simp; omega) (W.heap.size + 1) (by simp) ?_
              intro g cap w1 hown1 hgrow hat hlt1
              obtain ⟨k0, k1, k2, k3, k4, k5, k6⟩ := hfar _ hgrow
              try go_simp
              refine hK _ _ ?_; clear hK K
              refine wpAny_ready (rs := [6, 7]) (by kernel_rfl) (by simp) ?_
              refine AllReady.cons rfl (fun K hK => ?_) ?_
              · go_simp
                refine hK _ _ ?_; clear hK K
                refine wpAny_ready (rs := [7]) (by kernel_rfl) (by simp) ?_
                refine AllReady.cons rfl (fun K hK => ?_) ?_
                · go_simp
                  refine hK _ _ ?_; clear hK K
                  refine wpAny_ready (rs := [8]) (by kernel_rfl) (by simp) ?_
                  refine AllReady.cons rfl (fun K hK => ?_) ?_
                  · go_simp
                    refine hK _ _ ?_; clear hK K
                    refine wpAny_done (by kernel_rfl) ?_ _
                    obtain ⟨z1, z2, z3⟩ := StA.next (xt := xt) (B1 := W0.heap.size) hS0 bL1 hrow (Nat.le_refl _) hg hown1 hgrow
                    exact ⟨z1, z2, hok1, z3⟩
                  exact AllReady.nil
                exact AllReady.nil
              refine AllReady.cons rfl (fun K hK => ?_) ?_
              · go_simp
                refine hK _ _ ?_; clear hK K
                refine wpAny_ready (rs := [6]) (by kernel_rfl) (by simp) ?_
                refine AllReady.cons rfl (fun K hK => ?_) ?_
                · go_simp
                  refine hK _ _ ?_; clear hK K
                  refine wpAny_ready (rs := [8]) (by kernel_rfl) (by simp) ?_
                  refine AllReady.cons rfl (fun K hK => ?_) ?_
                  · go_simp
                    refine hK _ _ ?_; clear hK K
                    refine wpAny_done (by kernel_rfl) ?_ _
                    obtain ⟨z1, z2, z3⟩ := StA.next (xt := xt) (B1 := W0.heap.size) hS0 bL1 hrow (Nat.le_refl _) hg hown1 hgrow
                    exact ⟨z1, z2, hok1, z3⟩
                  exact AllReady.nil
                exact AllReady.nil
              exact AllReady.nil
            refine AllReady.cons rfl (fun K hK => ?_) ?_
            · go_simp
              refine hK _ _ ?_; clear hK K
              refine wpAny_ready (rs := [4]) (by kernel_rfl) (by simp) ?_
              refine AllReady.cons rfl (fun K hK => ?_) ?_
              · refine step_append_lies _ (by rfl) (.tmp 16) (.tmp 19) 41 (by rfl) (w.heap.size + 4) 9 i0 (.string ⟨#[]⟩) 1 16 Tryd.underlying41 hi hz0 hz1 hz2 rfl (by decide) _ _ _ (by rfl) ((hrow.alloc _).drew) ⟨W.heap.size, 0, none⟩ 1 1 [sc xp] (by rfl) (by rfl) (World.news_of_block (cs := #[sc xp]) (t := 9) (fr := (0, 0)) (heap_alloc_new W _)) hone (by decide) hlen1 hlen2 (by simp; omega) (W.heap.size + 1) (by simp) ?_
                intro g cap w1 hown1 hgrow hat hlt1
                obtain ⟨k0, k1, k2, k3, k4, k5, k6⟩ := hfar _ hgrow
                try go_simp
                refine hK _ _ ?_; clear hK K
                refine wpAny_ready (rs := [7]) (by kernel_rfl) (by simp) ?_
                refine AllReady.cons rfl (fun K hK => ?_) ?_
                · go_simp
                  refine hK _ _ ?_; clear hK K
                  refine wpAny_ready (rs := [8]) (by kernel_rfl) (by simp) ?_
                  refine AllReady.cons rfl (fun K hK => ?_) ?_
                  · go_simp
                    refine hK _ _ ?_; clear hK K
                    refine wpAny_done (by kernel_rfl) ?_ _
                    obtain ⟨z1, z2, z3⟩ := StA.next (xt := xt) (B1 := W0.heap.size) hS0 bL1 hrow (Nat.le_refl _) hg hown1 hgrow
                    exact ⟨z1, z2, hok1, z3⟩
                  exact AllReady.nil
                exact AllReady.nil
              exact AllReady.nil
            exact AllReady.nil
          refine AllReady.cons rfl (fun K hK => ?_) ?_
          · go_simp
            refine hK _ _ ?_; clear hK K
            refine wpAny_ready (rs := [3]) (by kernel_rfl) (by simp) ?_
            refine AllReady.cons rfl (fun K hK => ?_) ?_
            · go_simp
              refine hK _ _ ?_; clear hK K
              refine wpAny_ready (rs := [4]) (by kernel_rfl) (by simp) ?_
              refine AllReady.cons rfl (fun K hK => ?_) ?_
              · refine step_append_lies _ (by rfl) (.tmp 16) (.tmp 19) 41 (by rfl) (w.heap.size + 4) 9 i0 (.string ⟨#[]⟩) 1 16 Tryd.underlying41 hi hz0 hz1 hz2 rfl (by decide) _ _ _ (by rfl) ((hrow.alloc _).drew) ⟨W.heap.size, 0, none⟩ 1 1 [sc xp] (by rfl) (by rfl) (World.news_of_block (cs := #[sc xp]) (t := 9) (fr := (0, 0)) (heap_alloc_new W _)) hone (by decide) hlen1 hlen2 (by simp; omega) (W.heap.size + 1) (by simp) ?_
                intro g cap w1 hown1 hgrow hat hlt1
                obtain ⟨k0, k1, k2, k3, k4, k5, k6⟩ := hfar _ hgrow
                try go_simp
                refine hK _ _ ?_; clear hK K
                refine wpAny_ready (rs := [7]) (by kernel_rfl) (by simp) ?_
                refine AllReady.cons rfl (fun K hK => ?_) ?_
                · go_simp
                  refine hK _ _ ?_; clear hK K
                  refine wpAny_ready (rs := [8]) (by kernel_rfl) (by simp) ?_
                  refine AllReady.cons rfl (fun K hK => ?_) ?_
                  · go_simp
                    refine hK _ _ ?_; clear hK K
                    refine wpAny_done (by kernel_rfl) ?_ _
                    obtain ⟨z1, z2, z3⟩ := StA.next (xt := xt) (B1 := W0.heap.size) hS0 bL1 hrow (Nat.le_refl _) hg hown1 hgrow
                    exact ⟨z1, z2, hok1, z3⟩
                  exact AllReady.nil
                exact AllReady.nil
              exact AllReady.nil
            exact AllReady.nil
          exact AllReady.nil
        refine AllReady.cons rfl (fun K hK => ?_) ?_
        · go_simp
          refine hK _ _ ?_; clear hK K
          refine wpAny_ready (rs := [0, 6]) (by kernel_rfl) (by simp) ?_
          refine AllReady.cons rfl (fun K hK => ?_) ?_
          · go_simp
            refine hK _ _ ?_; clear hK K
            refine wpAny_ready (rs := [4, 6]) (by kernel_rfl) (by simp) ?_
            refine AllReady.cons rfl (fun K hK => ?_) ?_
            · refine step_append_lies _ (by rfl) (.tmp 16) (.tmp 19) 41 (by rfl) (w.heap.size + 4) 9 i0 (.string ⟨#[]⟩) 1 16 Tryd.underlying41 hi hz0 hz1 hz2 rfl (by decide) _ _ _ (by rfl) ((hrow.alloc _).drew) ⟨W.heap.size, 0, none⟩ 1 1 [sc xp] (by rfl) (by rfl) (World.news_of_block (cs := #[sc xp]) (t := 9) (fr := (0, 0)) (heap_alloc_new W _)) hone (by decide) hlen1 hlen2 (by simp; omega) (W.heap.size + 1) (by simp) ?_
              intro g cap w1 hown1 hgrow hat hlt1
              obtain ⟨k0, k1, k2, k3, k4, k5, k6⟩ := hfar _ hgrow
              try go_simp
              refine hK _ _ ?_; clear hK K
              refine wpAny_ready (rs := [6, 7]) (by kernel_rfl) (by simp) ?_
              refine AllReady.cons rfl (fun K hK => ?_) ?_
              · go_simp
                refine hK _ _ ?_; clear hK K
                refine wpAny_ready (rs := [7]) (by kernel_rfl) (by simp) ?_
                refine AllReady.cons rfl (fun K hK => ?_) ?_
                · go_simp
                  refine hK _ _ ?_; clear hK K
                  refine wpAny_ready (rs := [8]) (by kernel_rfl) (by simp) ?_
                  refine AllReady.cons rfl (fun K hK => ?_) ?_
                  · go_simp
                    refine hK _ _ ?_; clear hK K
                    refine wpAny_done (by kernel_rfl) ?_ _
                    obtain ⟨z1, z2, z3⟩ := StA.next (xt := xt) (B1 := W0.heap.size) hS0 bL1 hrow (Nat.le_refl _) hg hown1 hgrow
                    exact ⟨z1, z2, hok1, z3⟩
                  exact AllReady.nil
                exact AllReady.nil
              refine AllReady.cons rfl (fun K hK => ?_) ?_
              · go_simp
                refine hK _ _ ?_; clear hK K
                refine wpAny_ready (rs := [6]) (by kernel_rfl) (by simp) ?_
                refine AllReady.cons rfl (fun K hK => ?_) ?_
                · go_simp
                  refine hK _ _ ?_; clear hK K
                  refine wpAny_ready (rs := [8]) (by kernel_rfl) (by simp) ?_
                  refine AllReady.cons rfl (fun K hK => ?_) ?_
                  · go_simp
                    refine hK _ _ ?_; clear hK K
                    refine wpAny_done (by kernel_rfl) ?_ _
                    obtain ⟨z1, z2, z3⟩ := StA.next (xt := xt) (B1 := W0.heap.size) hS0 bL1 hrow (Nat.le_refl _) hg hown1 hgrow
                    exact ⟨z1, z2, hok1, z3⟩
                  exact AllReady.nil
                exact AllReady.nil
              exact AllReady.nil
            refine AllReady.cons rfl (fun K hK => ?_) ?_
            · go_simp
              refine hK _ _ ?_; clear hK K
              refine wpAny_ready (rs := [4]) (by kernel_rfl) (by simp) ?_
              refine AllReady.cons rfl (fun K hK => ?_) ?_
              · refine step_append_lies _ (by rfl) (.tmp 16) (.tmp 19) 41 (by rfl) (w.heap.size + 4) 9 i0 (.string ⟨#[]⟩) 1 16 Tryd.underlying41 hi hz0 hz1 hz2 rfl (by decide) _ _ _ (by rfl) ((hrow.alloc _).drew) ⟨W.heap.size, 0, none⟩ 1 1 [sc xp] (by rfl) (by rfl) (World.news_of_block (cs := #[sc xp]) (t := 9) (fr := (0, 0)) (heap_alloc_new W _)) hone (by decide) hlen1 hlen2 (by simp; omega) (W.heap.size + 1) (by simp) ?_
                intro g cap w1 hown1 hgrow hat hlt1
                obtain ⟨k0, k1, k2, k3, k4, k5, k6⟩ := hfar _ hgrow
                try go_simp
                refine hK _ _ ?_; clear hK K
                refine wpAny_ready (rs := [7]) (by kernel_rfl) (by simp) ?_
                refine AllReady.cons rfl (fun K hK => ?_) ?_
                · go_simp
                  refine hK _ _ ?_; clear hK K
                  refine wpAny_ready (rs := [8]) (by kernel_rfl) (by simp) ?_
                  refine AllReady.cons rfl (fun K hK => ?_) ?_
                  · go_simp
                    refine hK _ _ ?_; clear hK K
                    refine wpAny_done (by kernel_rfl) ?_ _
                    obtain ⟨z1, z2, z3⟩ := StA.next (xt := xt) (B1 := W0.heap.size) hS0 bL1 hrow (Nat.le_refl _) hg hown1 hgrow
                    exact ⟨z1, z2, hok1, z3⟩
                  exact AllReady.nil
                exact AllReady.nil
              exact AllReady.nil
            exact AllReady.nil
          refine AllReady.cons rfl (fun K hK => ?_) ?_
          · go_simp
            refine hK _ _ ?_; clear hK K
            refine wpAny_ready (rs := [0]) (by kernel_rfl) (by simp) ?_
            refine AllReady.cons rfl (fun K hK => ?_) ?_
            · go_simp
              refine hK _ _ ?_; clear hK K
              refine wpAny_ready (rs := [4]) (by kernel_rfl) (by simp) ?_
              refine AllReady.cons rfl (fun K hK => ?_) ?_
              · refine step_append_lies _ (by rfl) (.tmp 16) (.tmp 19) 41 (by rfl) (w.heap.size + 4) 9 i0 (.string ⟨#[]⟩) 1 16 Tryd.underlying41 hi hz0 hz1 hz2 rfl (by decide) _ _ _ (by rfl) ((hrow.alloc _).drew) ⟨W.heap.size, 0, none⟩ 1 1 [sc xp] (by rfl) (by rfl) (World.news_of_block (cs := #[sc xp]) (t := 9) (fr := (0, 0)) (heap_alloc_new W _)) hone (by decide) hlen1 hlen2 (by simp; omega) (W.heap.size + 1) (by simp) ?_
                intro g cap w1 hown1 hgrow hat hlt1
                obtain ⟨k0, k1, k2, k3, k4, k5, k6⟩ := hfar _ hgrow
                try go_simp
                refine hK _ _ ?_; clear hK K
                refine wpAny_ready (rs := [7]) (by kernel_rfl) (by simp) ?_
                refine AllReady.cons rfl (fun K hK => ?_) ?_
                · go_simp
                  refine hK _ _ ?_; clear hK K
                  refine wpAny_ready (rs := [8]) (by kernel_rfl) (by simp) ?_
                  refine AllReady.cons rfl (fun K hK => ?_) ?_
                  · go_simp
                    refine hK _ _ ?_; clear hK K
                    refine wpAny_done (by kernel_rfl) ?_ _
                    obtain ⟨z1, z2, z3⟩ := StA.next (xt := xt) (B1 := W0.heap.size) hS0 bL1 hrow (Nat.le_refl _) hg hown1 hgrow
                    exact ⟨z1, z2, hok1, z3⟩
                  exact AllReady.nil
                exact AllReady.nil
              exact AllReady.nil
            exact AllReady.nil
          exact AllReady.nil
        refine AllReady.cons rfl (fun K hK => ?_) ?_
        · go_simp
          refine hK _ _ ?_; clear hK K
          refine wpAny_ready (rs := [0, 3]) (by kernel_rfl) (by simp) ?_
          refine AllReady.cons rfl (fun K hK => ?_) ?_
          · go_simp
            refine hK _ _ ?_; clear hK K
            refine wpAny_ready (rs := [3]) (by kernel_rfl) (by simp) ?_
            refine AllReady.cons rfl (fun K hK => ?_) ?_
            · go_simp
              refine hK _ _ ?_; clear hK K
              refine wpAny_ready (rs := [4]) (by kernel_rfl) (by simp) ?_
              refine AllReady.cons rfl (fun K hK => ?_) ?_
              · refine step_append_lies _ (by rfl) (.tmp 16) (.tmp 19) 41 (by rfl) (w.heap.size + 4) 9 i0 (.string ⟨#[]⟩) 1 16 Tryd.underlying41 hi hz0 hz1 hz2 rfl (by decide) _ _ _ (by rfl) ((hrow.alloc _).drew) ⟨W.heap.size, 0, none⟩ 1 1 [sc xp] (by rfl) (by rfl) (World.news_of_block (cs := #[sc xp]) (t := 9) (fr := (0, 0)) (heap_alloc_new W _)) hone (by decide) hlen1 hlen2 (by simp; omega) (W.heap.size + 1) (by simp) ?_
                intro g cap w1 hown1 hgrow hat hlt1
                obtain ⟨k0, k1, k2, k3, k4, k5, k6⟩ := hfar _ hgrow
                try go_simp
                refine hK _ _ ?_; clear hK K
                refine wpAny_ready (rs := [7]) (by kernel_rfl) (by simp) ?_
                refine AllReady.cons rfl (fun K hK => ?_) ?_
                · go_simp
                  refine hK _ _ ?_; clear hK K
                  refine wpAny_ready (rs := [8]) (by kernel_rfl) (by simp) ?_
                  refine AllReady.cons rfl (fun K hK => ?_) ?_
                  · go_simp
                    refine hK _ _ ?_; clear hK K
                    refine wpAny_done (by kernel_rfl) ?_ _
                    obtain ⟨z1, z2, z3⟩ := StA.next (xt := xt) (B1 := W0.heap.size) hS0 bL1 hrow (Nat.le_refl _) hg hown1 hgrow
                    exact ⟨z1, z2, hok1, z3⟩
                  exact AllReady.nil
                exact AllReady.nil
              exact AllReady.nil
            exact AllReady.nil
          refine AllReady.cons rfl (fun K hK => ?_) ?_
          · go_simp
            refine hK _ _ ?_; clear hK K
            refine wpAny_ready (rs := [0]) (by kernel_rfl) (by simp) ?_
            refine AllReady.cons rfl (fun K hK => ?_) ?_
            · go_simp
              refine hK _ _ ?_; clear hK K
              refine wpAny_ready (rs := [4]) (by kernel_rfl) (by simp) ?_
              refine AllReady.cons rfl (fun K hK => ?_) ?_
              · refine step_append_lies _ (by rfl) (.tmp 16) (.tmp 19) 41 (by rfl) (w.heap.size + 4) 9 i0 (.string ⟨#[]⟩) 1 16 Tryd.underlying41 hi hz0 hz1 hz2 rfl (by decide) _ _ _ (by rfl) ((hrow.alloc _).drew) ⟨W.heap.size, 0, none⟩ 1 1 [sc xp] (by rfl) (by rfl) (World.news_of_block (cs := #[sc xp]) (t := 9) (fr := (0, 0)) (heap_alloc_new W _)) hone (by decide) hlen1 hlen2 (by simp; omega) (W.heap.size + 1) (by simp) ?_
                intro g cap w1 hown1 hgrow hat hlt1
                obtain ⟨k0, k1, k2, k3, k4, k5, k6⟩ := hfar _ hgrow
                try go_simp
                refine hK _ _ ?_; clear hK K
                refine wpAny_ready (rs := [7]) (by kernel_rfl) (by simp) ?_
                refine AllReady.cons rfl (fun K hK => ?_) ?_
                · go_simp
                  refine hK _ _ ?_; clear hK K
                  refine wpAny_ready (rs := [8]) (by kernel_rfl) (by simp) ?_
                  refine AllReady.cons rfl (fun K hK => ?_) ?_
                  · go_simp
                    refine hK _ _ ?_; clear hK K
                    refine wpAny_done (by kernel_rfl) ?_ _
                    obtain ⟨z1, z2, z3⟩ := StA.next (xt := xt) (B1 := W0.heap.size) hS0 bL1 hrow (Nat.le_refl _) hg hown1 hgrow
                    exact ⟨z1, z2, hok1, z3⟩
                  exact AllReady.nil
                exact AllReady.nil
              exact AllReady.nil
            exact AllReady.nil
          exact AllReady.nil
        exact AllReady.nil
      refine AllReady.cons rfl (fun K hK => ?_) ?_
      · go_simp
        refine hK _ _ ?_; clear hK K
        refine wpAny_ready (rs := [0, 2]) (by kernel_rfl) (by simp) ?_
        refine AllReady.cons rfl (fun K hK => ?_) ?_
        · go_simp
          refine hK _ _ ?_; clear hK K
          refine wpAny_ready (rs := [2]) (by kernel_rfl) (by simp) ?_
          refine AllReady.cons rfl (fun K hK => ?_) ?_
          · go_simp
            refine hK _ _ ?_; clear hK K
            refine wpAny_ready (rs := [3]) (by kernel_rfl) (by simp) ?_
            refine AllReady.cons rfl (fun K hK => ?_) ?_
            · go_simp
              refine hK _ _ ?_; clear hK K
              refine wpAny_ready (rs := [4]) (by kernel_rfl) (by simp) ?_
              refine AllReady.cons rfl (fun K hK => ?_) ?_
              · refine step_append_lies _ (by rfl) (.tmp 16) (.tmp 19) 41 (by rfl) (w.heap.size + 4) 9 i0 (.string ⟨#[]⟩) 1 16 Tryd.underlying41 hi hz0 hz1 hz2 rfl (by decide) _ _ _ (by rfl) ((hrow.alloc _).drew) ⟨W.heap.size, 0, none⟩ 1 1 [sc xp] (by rfl) (by rfl) (World.news_of_block (cs := #[sc xp]) (t := 9) (fr := (0, 0)) (heap_alloc_new W _)) hone (by decide) hlen1 hlen2 (by simp; omega) (W.heap.size + 1) (by simp) ?_
                intro g cap w1 hown1 hgrow hat hlt1
                obtain ⟨k0, k1, k2, k3, k4, k5, k6⟩ := hfar _ hgrow
                try go_simp
                refine hK _ _ ?_; clear hK K
                refine wpAny_ready (rs := [7]) (by kernel_rfl) (by simp) ?_
                refine AllReady.cons rfl (fun K hK => ?_) ?_
                · go_simp
                  refine hK _ _ ?_; clear hK K
                  refine wpAny_ready (rs := [8]) (by kernel_rfl) (by simp) ?_
                  refine AllReady.cons rfl (fun K hK => ?_) ?_
                  · go_simp
                    refine hK _ _ ?_; clear hK K
                    refine wpAny_done (by kernel_rfl) ?_ _
                    obtain ⟨z1, z2, z3⟩ := StA.next (xt := xt) (B1 := W0.heap.size) hS0 bL1 hrow (Nat.le_refl _) hg hown1 hgrow
                    exact ⟨z1, z2, hok1, z3⟩
                  exact AllReady.nil
                exact AllReady.nil
              exact AllReady.nil
            exact AllReady.nil
          exact AllReady.nil
        refine AllReady.cons rfl (fun K hK => ?_) ?_
        · go_simp
          refine hK _ _ ?_; clear hK K
          refine wpAny_ready (rs := [0, 3]) (by kernel_rfl) (by simp) ?_
          refine AllReady.cons rfl (fun K hK => ?_) ?_
          · go_simp
            refine hK _ _ ?_; clear hK K
            refine wpAny_ready (rs := [3]) (by kernel_rfl) (by simp) ?_
            refine AllReady.cons rfl (fun K hK => ?_) ?_
            · go_simp
              refine hK _ _ ?_; clear hK K
              refine wpAny_ready (rs := [4]) (by kernel_rfl) (by simp) ?_
              refine AllReady.cons rfl (fun K hK => ?_) ?_
              · refine step_append_lies _ (by rfl) (.tmp 16) (.tmp 19) 41 (by rfl) (w.heap.size + 4) 9 i0 (.string ⟨#[]⟩) 1 16 Tryd.underlying41 hi hz0 hz1 hz2 rfl (by decide) _ _ _ (by rfl) ((hrow.alloc _).drew) ⟨W.heap.size, 0, none⟩ 1 1 [sc xp] (by rfl) (by rfl) (World.news_of_block (cs := #[sc xp]) (t := 9) (fr := (0, 0)) (heap_alloc_new W _)) hone (by decide) hlen1 hlen2 (by simp; omega) (W.heap.size + 1) (by simp) ?_
                intro g cap w1 hown1 hgrow hat hlt1
                obtain ⟨k0, k1, k2, k3, k4, k5, k6⟩ := hfar _ hgrow
                try go_simp
                refine hK _ _ ?_; clear hK K
                refine wpAny_ready (rs := [7]) (by kernel_rfl) (by simp) ?_
                refine AllReady.cons rfl (fun K hK => ?_) ?_
                · go_simp
                  refine hK _ _ ?_; clear hK K
                  refine wpAny_ready (rs := [8]) (by kernel_rfl) (by simp) ?_
                  refine AllReady.cons rfl (fun K hK => ?_) ?_
                  · go_simp
                    refine hK _ _ ?_; clear hK K
                    refine wpAny_done (by kernel_rfl) ?_ _
                    obtain ⟨z1, z2, z3⟩ := StA.next (xt := xt) (B1 := W0.heap.size) hS0 bL1 hrow (Nat.le_refl _) hg hown1 hgrow
                    exact ⟨z1, z2, hok1, z3⟩
                  exact AllReady.nil
                exact AllReady.nil
              exact AllReady.nil
            exact AllReady.nil
          refine AllReady.cons rfl (fun K hK => ?_) ?_
          · go_simp
            refine hK _ _ ?_; clear hK K
            refine wpAny_ready (rs := [0]) (by kernel_rfl) (by simp) ?_
            refine AllReady.cons rfl (fun K hK => ?_) ?_
            · go_simp
              refine hK _ _ ?_; clear hK K
              refine wpAny_ready (rs := [4]) (by kernel_rfl) (by simp) ?_
              refine AllReady.cons rfl (fun K hK => ?_) ?_
              · refine step_append_lies _ (by rfl) (.tmp 16) (.tmp 19) 41 (by rfl) (w.heap.size + 4) 9 i0 (.string ⟨#[]⟩) 1 16 Tryd.underlying41 hi hz0 hz1 hz2 rfl (by decide) _ _ _ (by rfl) ((hrow.alloc _).drew) ⟨W.heap.size, 0, none⟩ 1 1 [sc xp] (by rfl) (by rfl) (World.news_of_block (cs := #[sc xp]) (t := 9) (fr := (0, 0)) (heap_alloc_new W _)) hone (by decide) hlen1 hlen2 (by simp; omega) (W.heap.size + 1) (by simp) ?_
                intro g cap w1 hown1 hgrow hat hlt1
                obtain ⟨k0, k1, k2, k3, k4, k5, k6⟩ := hfar _ hgrow
                try go_simp
                refine hK _ _ ?_; clear hK K
                refine wpAny_ready (rs := [7]) (by kernel_rfl) (by simp) ?_
                refine AllReady.cons rfl (fun K hK => ?_) ?_
                · go_simp
                  refine hK _ _ ?_; clear hK K
                  refine wpAny_ready (rs := [8]) (by kernel_rfl) (by simp) ?_
                  refine AllReady.cons rfl (fun K hK => ?_) ?_
                  · go_simp
                    refine hK _ _ ?_; clear hK K
                    refine wpAny_done (by kernel_rfl) ?_ _
                    obtain ⟨z1, z2, z3⟩ := StA.next (xt := xt) (B1 := W0.heap.size) hS0 bL1 hrow (Nat.le_refl _) hg hown1 hgrow
                    exact ⟨z1, z2, hok1, z3⟩
                  exact AllReady.nil
                exact AllReady.nil
              exact AllReady.nil
            exact AllReady.nil
          exact AllReady.nil
        exact AllReady.nil
      exact AllReady.nil
    · have heb : (xe != 0) = true := by simpa using he
      gi_wp2_with fail
      gi_region_with_o (fail)
      all_goals gi_wp2
      all_goals exact ⟨(keeps_laid _ _ _ _ _).from _, rfl, pre, (xp, xt, xe), rfl, ho, he, hS0.laid bL1 hrow⟩
  case done =>
    rintro D ys W hD hys ⟨ho, hS0⟩ hK
    have HY := Lib.hid hys
    clear hys
    have hmx : Tryd.prog.follows .mixedOrders = true := by kernel_rfl
    obtain ⟨⟨v, bL1, hrow, _⟩, bU1, bE1, bS1, hB1⟩ := hS0
    obtain ⟨b1, c1, rfl⟩ := row_slice hrow
    have hS0 : StA s w.heap.size w ys 0 W := ⟨⟨_, bL1, hrow, trivial⟩, bU1, bE1, bS1, hB1⟩
    have cL := bL1.cell
    have cU := bU1.cell
    have cE := bE1.cell
    have fL := bL1.frozen
    have fU := bU1.frozen
    have fE := bE1.frozen
    gi_wp2_with fail
    gi_region_with_o (fail)
    all_goals gi_wp2
    all_goals have hK' := (keeps_laid W w.heap.size (.slice b1 ys.length c1) (.int .i64 (lastTo ys : Nat)) (.int .i64 0)).same D _ hK rfl
    all_goals refine ⟨by simp, .inl ⟨_, _, rfl, run_takeDeferred hK', ?_⟩⟩
    all_goals have hS2 := hS0.laid (E' := 0) bL1 hrow
    all_goals have hS3 := hS2.turn (grownBy_putObj' _ D (.deferred none)) (Bd := w.heap.size) (fun r e => by cases e; exact ⟨by omega, _, hK', rfl⟩) (Nat.le_refl _) (Nat.le_refl _)
    all_goals have hp := faS_ok s.size s.data.toList 0 (by rw [← HY.out]; exact ho)
    all_goals rw [← HY.out] at hp
    all_goals obtain ⟨v', d1, d2, d3, d4⟩ := hS3.ends hp.1 (by have := hp.2.1; rw [Nat.zero_add] at this; exact this) hp.2.2
    all_goals refine ⟨.tuple #[v', .int .i64 (lastTo ys : Nat), .int .i64 0], ?_, d4⟩
    all_goals simp [results, Tryd.f16, go_sem, d1, d2, d3]
  case stop =>
    rintro D c pre W hD hpre ⟨rfl, q, x, rfl, ho, hx, hS⟩ hK
    have hp := faS_stop s.size s.data.toList 0 q x hpre ho hx
    gi_wp2
    refine ⟨by simp, .inl ⟨_, _, rfl, run_takeDeferred hK, ?_⟩⟩
    have hS3 := hS.turn (grownBy_putObj' _ D (.deferred none)) (Bd := w.heap.size) (fun r e => by cases e; exact ⟨by omega, _, hK, rfl⟩) (Nat.le_refl _) (Nat.le_refl _)
    obtain ⟨v', d1, d2, d3, d4⟩ := hS3.ends hp.1 (by have := hp.2.1; rw [Nat.zero_add] at this; exact this) hp.2.2
    refine ⟨.tuple #[v', .int .i64 (lastTo q : Nat), .int .i64 x.2.2], ?_, d4⟩
    simp [results, Tryd.f16, go_sem, d1, d2, d3]
end Go.Proofs.YtgmnojignnjejaaDoor.Frame
