/- What the program's 'Accept' of a link answers: walked. Conditions: the numbers are what their types bear; the lists lie in memory; the table. -/
import Derived.Test.YtdgbililgkhjfaaDoorLkB
import Derived.Test.YtdgbililgkhjfaaDoorDrawG
import Derived.Deep.MidRow
import Derived.ChangeKeysEq
namespace Go.Proofs.YtdgbililgkhjfaaDoor.Lk
open Go.RowKit Go.Proofs.YtdgbililgkhjfaaDoor.Crc Go.Proofs.YtdgbililgkhjfaaDoor.Codec Go.Proofs.YtdgbililgkhjfaaDoor.Pk Go.Proofs.YtdgbililgkhjfaaDoor.CrcWalk Go.Proofs.YtdgbililgkhjfaaDoor.Frame
set_option linter.unusedVariables false
set_option linter.unusedSimpArgs false
theorem fieldsKn : (Tryd.prog.fieldsOf KT).toList.map (fun f => (f.name, f.type, f.offset)) = [("epoch", 22, 0), ("count", 22, 1), ("owned", 22, 2), ("met", 4, 3)] := by kernel_rfl
/-- What of two structs' fields is held against each other, by name, type, and place. -/
def eqFs (d : Nat) (xs ys : Array Value) : List (String × TypeId × Nat) → Sem Bool
  | [] => pure true
  | f :: fs => do
    let a ← part f.2.1 xs f.2.2
    let b ← part f.2.1 ys f.2.2
    let r ← Op.equalIn d f.2.1 a b
    if (!r) = true then pure false else eqFs d xs ys fs
theorem eqFs_eq (d : Nat) (xs ys : Array Value) : ∀ (fs : List Field), (∀ f ∈ fs, f.name ≠ "_") → Op.eqFields d xs ys fs = eqFs d xs ys (fs.map fun f => (f.name, f.type, f.offset))
  | [], _ => rfl
  | f :: fs, h => by
    simp only [Op.eqFields, eqFs, List.map_cons]
    rw [if_pos (h f (List.mem_cons_self ..)), eqFs_eq d xs ys fs (fun g hg => h g (List.mem_cons_of_mem _ hg))]
theorem eqFs_step {d : Nat} {xs ys : Array Value} {n : String} {t : TypeId} {k : Nat} {fs : List (String × TypeId × Nat)} {W : World} {a b : Value} {r : Bool}
    (ha : (part t xs k).run Tryd.prog W = .ok a W) (hb : (part t ys k).run Tryd.prog W = .ok b W) (hr : (Op.equalIn d t a b).run Tryd.prog W = .ok r W) {s : Bool} (h : (eqFs d xs ys fs).run Tryd.prog W = .ok s W) :
    (eqFs d xs ys ((n, t, k) :: fs)).run Tryd.prog W = .ok (r && s) W := by
  simp only [eqFs, Sem.run_bind, ha, hb, hr, Result.andThen_ok]
  cases r
  · simp
  · simpa using h
theorem part_int {t : TypeId} {k : IntKind} (hu : Tryd.prog.underlying t = some (.int k)) (xs : Array Value) (i : Nat) (v : Value) (W : World) (h : xs[i]? = some v) : (part t xs i).run Tryd.prog W = .ok v W := by
  simp [part, isAgg, run_underlying hu, h]
theorem part_bool {t : TypeId} (hu : Tryd.prog.underlying t = some .bool) (xs : Array Value) (i : Nat) (v : Value) (W : World) (h : xs[i]? = some v) : (part t xs i).run Tryd.prog W = .ok v W := by
  simp [part, isAgg, run_underlying hu, h]
theorem nat_eq (d : Nat) (x y : Nat) (W : World) : (Op.equalIn (d + 1) 22 (.int .u64 x) (.int .u64 y)).run Tryd.prog W = .ok (decide (x = y)) W := by
  rw [run_equalIn_int W d 22 .u64 .u64 x y Tryd.underlying22]
  congr 1
  rw [Bool.eq_iff_iff, beq_iff_eq, decide_eq_true_iff]
  omega
def sameK (e c o : Nat) (m : Bool) (e' c' o' : Nat) (m' : Bool) : Bool := decide (e = e') && (decide (c = c') && (decide (o = o') && ((m == m') && true)))
theorem eqFs_kn (d : Nat) (e c o : Nat) (m : Bool) (e' c' o' : Nat) (m' : Bool) (W : World) :
    (eqFs (d + 2) (kc e c o m) (kc e' c' o' m') [("epoch", 22, 0), ("count", 22, 1), ("owned", 22, 2), ("met", 4, 3)]).run Tryd.prog W = .ok (sameK e c o m e' c' o' m') W := by
  unfold sameK
  refine eqFs_step (part_int Tryd.underlying22 _ _ _ W rfl) (part_int Tryd.underlying22 _ _ _ W rfl) (nat_eq (d + 1) _ _ W) ?_
  refine eqFs_step (part_int Tryd.underlying22 _ _ _ W rfl) (part_int Tryd.underlying22 _ _ _ W rfl) (nat_eq (d + 1) _ _ W) ?_
  refine eqFs_step (part_int Tryd.underlying22 _ _ _ W rfl) (part_int Tryd.underlying22 _ _ _ W rfl) (nat_eq (d + 1) _ _ W) ?_
  refine eqFs_step (part_bool Tryd.underlying4 _ _ _ W rfl) (part_bool Tryd.underlying4 _ _ _ W rfl) (run_equalIn_bool W (d + 1) 4 _ _ Tryd.underlying4) ?_
  rfl
set_option maxRecDepth 100000 in
theorem kn_eq (e c o : Nat) (m : Bool) (e' c' o' : Nat) (m' : Bool) (W : World) : (Op.equalIn 10000 KT (.agg (kc e c o m)) (.agg (kc e' c' o' m'))).run Tryd.prog W = .ok (sameK e c o m e' c' o' m') W := by
  have hf := fieldsKn
  have hn : ∀ f ∈ (Tryd.prog.fieldsOf KT).toList, f.name ≠ "_" := fun f h => by
    have h2 : f.name ∈ (Tryd.prog.fieldsOf KT).toList.map (fun f => f.name) := List.mem_map_of_mem h
    rw [show (fun f : Field => f.name) = (fun p : String × TypeId × Nat => p.1) ∘ (fun f : Field => (f.name, f.type, f.offset)) from rfl, ← List.map_map, hf] at h2
    intro e
    rw [e] at h2
    revert h2
    decide
  rw [run_equalIn_struct W 9999 KT _ _ Tryd.underlying72 (by kernel_rfl), eqFs_eq _ _ _ _ hn, hf, eqFs_kn 9997 e c o m e' c' o' m' W]
set_option maxRecDepth 100000 in
theorem exec_neq {op : Oper} {ρ : Operand → Value} {w : World} (x y : Operand) (e c o : Nat) (m : Bool) (e' c' o' : Nat) (m' : Bool) (ho : op.op = .binOp .neq KT x y KT) (hx : ρ x = .agg (kc e c o m)) (hy : ρ y = .agg (kc e' c' o' m')) :
    (execOp ρ op).run Tryd.prog w = .ok (.value (.bool (!(sameK e c o m e' c' o' m')))) w := by
  unfold execOp
  simp only [ho, hx, hy, Sem.run_bind, Sem.run_pure, Result.andThen_ok, run_eqGuard_agg (P := Tryd.prog) w .neq KT x y (kc e c o m) (kc e' c' o' m') (by kernel_rfl), run_neq_struct, kn_eq]
theorem lc_range {W : World} {g : Nat} {l : L} (h : Blk W g (lc l) LT) : W.rangeAt g 0 (kc l.epoch l.count l.owned l.met).toList := fun j v hv => by
  rw [Nat.zero_add]
  refine h.cell v ?_
  match j, hv with
  | 0, hv => exact hv
  | 1, hv => exact hv
  | 2, hv => exact hv
  | 3, hv => exact hv
  | j + 4, hv => simp [kc] at hv
theorem exec_load_kn {op : Oper} {ρ : Operand → Value} {w : World} (x : Operand) (g : Nat) (l : L) (hb : Blk w g (lc l) LT) (ho : op.op = .load KT x) (hx : ρ x = .pointer (some ⟨g, 0, none⟩)) :
    (execOp ρ op).run Tryd.prog w = .ok (.value (.agg (kc l.epoch l.count l.owned l.met))) w := by
  unfold execOp
  simp only [ho, hx, Instr.loadAt, Instr.sureAddr, Sem.run_bind, Sem.run_pure, Result.andThen_ok, run_loadVar_mid w g 0 KT (kc l.epoch l.count l.owned l.met).toList _ (lc_range hb) Tryd.underlying72 rfl (kc_info _ _ _ _)]
theorem set4 {w : World} {g : Nat} {l : L} (h : Blk w g (lc l) LT) (e c o : Nat) (m : Bool) : Blk (w.setCells g 0 (kc e c o m).toList) g (lc { l with epoch := e, count := c, owned := o, met := m }) LT :=
  (((h.set (off := 0) (.int .u64 e)).set (off := 1) (.int .u64 c)).set (off := 2) (.int .u64 o)).set (off := 3) (.bool m)
theorem kp4 {B g : Nat} {a w : World} (h : Kp B g a w) (e c o : Nat) (m : Bool) : Kp B g a (w.setCells g 0 (kc e c o m).toList) :=
  (((h.setCell ⟨g, 0, none⟩ rfl (.int .u64 e)).setCell ⟨g, 1, none⟩ rfl (.int .u64 c)).setCell ⟨g, 2, none⟩ rfl (.int .u64 o)).setCell ⟨g, 3, none⟩ rfl (.bool m)
theorem kset4 {w : World} {g : Nat} {e0 c0 o0 : Nat} {m0 : Bool} (h : Blk w g (kc e0 c0 o0 m0) KT) (e c o : Nat) (m : Bool) : Blk (w.setCells g 0 (kc e c o m).toList) g (kc e c o m) KT :=
  (((h.set (off := 0) (.int .u64 e)).set (off := 1) (.int .u64 c)).set (off := 2) (.int .u64 o)).set (off := 3) (.bool m)
theorem far4 {w : World} {g q : Nat} {cs : Array Value} {t : TypeId} (h : Blk w g cs t) (hne : q ≠ g) (e c o : Nat) (m : Bool) : Blk (w.setCells q 0 (kc e c o m).toList) g cs t :=
  far_blk (far_blk (far_blk (far_blk h hne 0 (.int .u64 e)) hne 1 (.int .u64 c)) hne 2 (.int .u64 o)) hne 3 (.bool m)
theorem bel4 {B q : Nat} {a w : World} (h : Below B a w) (hq : B ≤ q) (e c o : Nat) (m : Bool) : Below B a (w.setCells q 0 (kc e c o m).toList) :=
  (((h.setCell (p := ⟨q, 0, none⟩) hq (.int .u64 e)).setCell (p := ⟨q, 1, none⟩) hq (.int .u64 c)).setCell (p := ⟨q, 2, none⟩) hq (.int .u64 o)).setCell (p := ⟨q, 3, none⟩) hq (.bool m)
theorem therek {w : World} {g : Nat} {e0 c0 o0 : Nat} {m0 : Bool} (h : Blk w g (kc e0 c0 o0 m0) KT) (e c o : Nat) (m : Bool) : w.there g 0 (kc e c o m).size := fun j hj => by
  refine ⟨?_, h.free⟩
  rw [Nat.zero_add]
  have hj4 : j < 4 := hj
  have e1 : (kc e0 c0 o0 m0)[j]? = some ((kc e0 c0 o0 m0)[j]'hj4) := Array.getElem?_eq_getElem _
  rw [h.cell _ e1]
  rfl
theorem sameK_iff {e c o : Nat} {m : Bool} {e' c' o' : Nat} {m' : Bool} (h : sameK e c o m e' c' o' m' = true) : e = e' ∧ c = c' ∧ o = o' ∧ m = m' := by
  unfold sameK at h
  simpa using h
theorem there4 {w : World} {g : Nat} {l : L} (h : Blk w g (lc l) LT) (e c o : Nat) (m : Bool) : w.there g 0 (kc e c o m).size := fun j hj => by
  refine ⟨?_, h.free⟩
  rw [Nat.zero_add]
  have hj4 : j < 4 := hj
  have e1 : (lc l)[j]? = some ((lc l)[j]'(by show j < 10; omega)) := Array.getElem?_eq_getElem _
  rw [h.cell _ e1]
  rfl
/-- A pointer to a new block. -/
def PtrT (t : TypeId) (cs : Array Value) (B : Nat) (W : World) (v : Value) : Prop := ∃ g, v = .pointer (some ⟨g, 0, none⟩) ∧ Blk W g cs t ∧ B ≤ g
theorem PtrT.call {t : TypeId} {cs : Array Value} {B : Nat} {W W' : World} {v : Value} (h : PtrT t cs B W v) (hb : Below W.heap.size W W') : PtrT t cs B W' v := by
  obtain ⟨g, h1, h2, h3⟩ := h
  exact ⟨g, h1, (hb.block _ h2.lt).trans h2, h3⟩
theorem kp_drewN {B p : Nat} {a w : World} (h : Kp B p a w) (n : Nat) : Kp B p a (w.drewN n) := h.trans (Kp.of_below (bel_drewN (Below.refl _ _) n))
theorem bel_new (W : World) (o : Obj) : Below W.heap.size W (W.alloc o) := (Below.refl _ W).alloc (Nat.le_refl _) o
/-- Under way: the link, the packet. -/
structure Un (w : World) (g : Nat) (l : L) (k : K) (vi vp : Value) (W : World) : Prop where
  a : Blk W g (lc l) LT
  b : Blk W w.heap.size (pc k vi vp) 26
  kp : Kp w.heap.size g w W
theorem Un.call {w W W' : World} {g : Nat} {l : L} {k : K} {vi vp : Value} (h : Un w g l k vi vp W) (hb : Below W.heap.size W W') : Un w g l k vi vp W' :=
  ⟨(hb.block _ h.a.lt).trans h.a, (hb.block _ h.b.lt).trans h.b, h.kp.trans (Kp.of_below (hb.mono h.kp.size))⟩
set_option maxRecDepth 100000 in
theorem is_any (l : L) (g : Nat) (w : World) (hb : Blk w g (lc l) LT) (hl : l.wf) : Calls Tryd.prog 73 #[.pointer (some ⟨g, 0, none⟩)] w fun e w' => e = .returned (.bool true) ∧ w = w' := by
  have c6 : w.cell? ⟨g, 6, none⟩ = some (.int .u64 l.every) := hb.cell _ rfl
  have hev : 0 < l.every := hl.every
  clear hb hl
  go_enter Tryd.func73, Tryd.ntmps73
  go_wp2
  go_ret
  exact ⟨rfl, rfl⟩
set_option maxRecDepth 100000 in
set_option maxHeartbeats 8000000 in
/-- What 'Accept' answers. -/
theorem acc_any (l : L) (k : K) (vi vp : Value) (g : Nat) (w : World) (hg : Blk w g (lc l) LT) (hl : l.wf) (hk : k.wf) (hi : Ins w vi k.ins) (hp : Prs w vp k.prs) (hT : Tab w) :
    Calls Tryd.prog 34 #[.pointer (some ⟨g, 0, none⟩), .agg (pc k vi vp)] w fun r w' => r = .returned (.int .i64 (l.acc k).2) ∧ Blk w' g (lc (l.acc k).1) LT ∧ Kp w.heap.size g w w' := by
  have hU0 : Un w g l k vi vp (w.alloc (.cells (pc k vi vp) 26)) := ⟨hg.alloc _, heap_alloc_new w _, (Kp.refl _ _ _).alloc (Nat.le_refl _) _⟩
  have HI := Lib.hid (fun W (h : Un w g l k vi vp W) => is_any l g W h.a hl)
  have HPU := Lib.hid (fun W (h : Below w.heap.size w W) => put_any k vi vp W hk (hi.below h) (hp.below h) (tab_below hT h))
  have hsh : ∃ b c, vi = .slice b k.ins.length c := by
    obtain ⟨b, c, e, _⟩ := id hi
    exact ⟨b, c, e⟩
  have HTO := Lib.hid (fun W (hm : k.may) => told_any l k vi vp W hl hk hm hsh)
  obtain ⟨PP, hPP⟩ : ∃ PP, PP = pPut k := ⟨_, rfl⟩
  rw [← hPP] at HPU
  obtain ⟨t, E⟩ := PP
  obtain ⟨A, hA⟩ : ∃ A, A = l.acc k := ⟨_, rfl⟩
  rw [← hA]
  have HA := Lib.hid hA
  have HPP := Lib.hid hPP
  have HKW := Lib.hid hk
  have HLW := Lib.hid hl
  have gl := hg.lt
  have q1 := hk.player
  have q2 := hl.player
  have q3 := hk.epoch
  have q4 := hl.epoch
  clear hA hPP hT hi hp hk hl hg hsh
  go_enter Tryd.func34, Tryd.ntmps34
  go_wp2_with fail
  refine (HI.out _ hU0).mono ?_
  rintro r w' ⟨rfl, rfl⟩
  have hb0 := hU0.b
  go_wp2_with (first | (refine load_pk (.tmp 3) w.heap.size k vi vp hb0 rfl rfl rfl ?_))
  refine (HPU.out _ (bel_new _ _)).mono ?_
  rintro r w1 ⟨rfl, hx⟩
  have hU1 := hU0.call hx
  clear hx hU0 hb0 HPU HI
  have hgd : E = 0 ∧ (k.may ∧ k.only = k) ∨ E = 4 ∧ ¬ (k.may ∧ k.only = k) := by
    have h := HPP.out
    by_cases hc : k.may ∧ k.only = k
    · have h2 := h.trans (if_pos hc)
      cases h2
      exact .inl ⟨rfl, hc⟩
    · have h2 := h.trans (if_neg hc)
      cases h2
      exact .inr ⟨rfl, hc⟩
  have c4 : w1.cell? ⟨g, 4, none⟩ = some (.int .u8 l.player) := hU1.a.cell _ rfl
  have b1 : w1.cell? ⟨w.heap.size, 1, none⟩ = some (.int .u8 k.player) := hU1.b.cell _ rfl
  have HU1 := Lib.hid hU1
  clear hU1
  go_upto_region 4 with fail
  go_cut [26] (fun v wx => v = .bool (decide (¬ (k.may ∧ k.only = k) ∨ k.player = l.player)) ∧ Un w g l k vi vp wx)
  case first =>
    rcases hgd with ⟨rfl, hgood⟩ | ⟨rfl, hbad⟩
    · by_cases hpl : k.player = l.player
      · have e1 : ((k.player : Int) == (l.player : Int)) = true := by rw [beq_iff_eq]; omega
        have HD := Lib.hid (show decide (¬ (k.may ∧ k.only = k) ∨ k.player = l.player) = true from decide_eq_true (.inr hpl))
        clear hpl hgood
        go_quiet (fail)
        go_wp2
        go_meet
        exact ⟨by rw [HD.out], ⟨HU1.out.a, HU1.out.b, kp_drewN HU1.out.kp _⟩⟩
      · have e1 : ((k.player : Int) == (l.player : Int)) = false := by rw [beq_eq_false_iff_ne]; omega
        have HD := Lib.hid (show decide (¬ (k.may ∧ k.only = k) ∨ k.player = l.player) = false from decide_eq_false (by rintro (h | h); exact h hgood; exact hpl h))
        clear hpl hgood
        go_quiet (fail)
        go_wp2
        go_meet
        exact ⟨by rw [HD.out], ⟨HU1.out.a, HU1.out.b, kp_drewN HU1.out.kp _⟩⟩
    · have HD := Lib.hid (show decide (¬ (k.may ∧ k.only = k) ∨ k.player = l.player) = true from decide_eq_true (.inl hbad))
      clear hbad
      go_quiet (fail)
      go_wp2
      go_meet
      exact ⟨by rw [HD.out], ⟨HU1.out.a, HU1.out.b, kp_drewN HU1.out.kp _⟩⟩
  case rest =>
  obtain ⟨rfl, hU2⟩ := hcut
  clear c4 b1 HU1
  by_cases hbad : ¬ (k.may ∧ k.only = k) ∨ k.player = l.player
  · obtain rfl : A = (l, 4) := HA.out.trans (if_pos hbad)
    rw [decide_eq_true hbad]
    have HU2 := Lib.hid hU2
    clear hbad hgd hU2
    go_wp2
    go_ret
    exact ⟨rfl, HU2.out.a, HU2.out.kp⟩
  rw [decide_eq_false hbad]
  have HA2 := HA.out.trans (if_neg hbad)
  have hgood : k.may ∧ k.only = k := Classical.not_not.1 fun h => hbad (.inl h)
  have HAA := Lib.hid HA2
  have HGO := Lib.hid hgood
  clear hbad hgd HA HA2 hgood
  have c0 : wc.cell? ⟨g, 0, none⟩ = some (.int .u64 l.epoch) := hU2.a.cell _ rfl
  have c5 : wc.cell? ⟨g, 5, none⟩ = some (.int .u64 l.own) := hU2.a.cell _ rfl
  have b0 : wc.cell? ⟨w.heap.size, 0, none⟩ = some (.int .i64 k.kind) := hU2.b.cell _ rfl
  have b2 : wc.cell? ⟨w.heap.size, 2, none⟩ = some (.int .u64 k.epoch) := hU2.b.cell _ rfl
  have b3 : wc.cell? ⟨w.heap.size, 3, none⟩ = some (.int .u64 k.dest) := hU2.b.cell _ rfl
  have HU2 := Lib.hid hU2
  clear hU2
  go_upto_region 6 with fail
  go_cut [48] (fun v wx => v = .bool (decide (k.epoch < l.epoch ∨ (k.dest ≠ l.own ∧ k.kind ≠ 1))) ∧ Un w g l k vi vp wx)
  case first =>
    by_cases h1 : k.epoch < l.epoch
    · have e1 : decide (k.epoch < l.epoch) = true := decide_eq_true h1
      have HD := Lib.hid (show decide (k.epoch < l.epoch ∨ (k.dest ≠ l.own ∧ k.kind ≠ 1)) = true from decide_eq_true (.inl h1))
      clear h1
      go_quiet (fail)
      go_wp2
      go_meet
      exact ⟨by rw [HD.out], ⟨HU2.out.a, HU2.out.b, kp_drewN HU2.out.kp _⟩⟩
    · have e1 : decide (k.epoch < l.epoch) = false := decide_eq_false h1
      by_cases h2 : k.dest = l.own
      · have e2 : ((k.dest : Int) != (l.own : Int)) = false := by rw [bne_eq_false_iff_eq]; omega
        have HD := Lib.hid (show decide (k.epoch < l.epoch ∨ (k.dest ≠ l.own ∧ k.kind ≠ 1)) = false from decide_eq_false (by rintro (h | h); exact h1 h; exact h.1 h2))
        clear h1 h2
        go_quiet (fail)
        go_wp2
        go_meet
        exact ⟨by rw [HD.out], ⟨HU2.out.a, HU2.out.b, kp_drewN HU2.out.kp _⟩⟩
      · have e2 : ((k.dest : Int) != (l.own : Int)) = true := by rw [bne_iff_ne]; omega
        by_cases h3 : k.kind = 1
        · have e3 : (k.kind != 1) = false := by rw [bne_eq_false_iff_eq]; exact h3
          have HD := Lib.hid (show decide (k.epoch < l.epoch ∨ (k.dest ≠ l.own ∧ k.kind ≠ 1)) = false from decide_eq_false (by rintro (h | h); exact h1 h; exact h.2 h3))
          clear h1 h2 h3
          go_quiet (fail)
          go_wp2
          go_meet
          exact ⟨by rw [HD.out], ⟨HU2.out.a, HU2.out.b, kp_drewN HU2.out.kp _⟩⟩
        · have e3 : (k.kind != 1) = true := by rw [bne_iff_ne]; exact h3
          have HD := Lib.hid (show decide (k.epoch < l.epoch ∨ (k.dest ≠ l.own ∧ k.kind ≠ 1)) = true from decide_eq_true (.inr ⟨h2, h3⟩))
          clear h1 h2 h3
          go_quiet (fail)
          go_wp2
          go_meet
          exact ⟨by rw [HD.out], ⟨HU2.out.a, HU2.out.b, kp_drewN HU2.out.kp _⟩⟩
  case rest =>
  obtain ⟨rfl, hU3⟩ := hcut
  clear c0 c5 b0 b2 b3 HU2
  by_cases hst : k.epoch < l.epoch ∨ (k.dest ≠ l.own ∧ k.kind ≠ 1)
  · obtain rfl : A = (l, 12) := HAA.out.trans (if_pos hst)
    rw [decide_eq_true hst]
    have HU3 := Lib.hid hU3
    clear hst hU3
    go_wp2
    go_ret
    exact ⟨rfl, HU3.out.a, HU3.out.kp⟩
  rw [decide_eq_false hst]
  obtain rfl : A = (l.told k, 0) := HAA.out.trans (if_neg hst)
  clear hst HAA
  have HU3 := Lib.hid hU3
  clear hU3
  obtain ⟨X, hX⟩ : ∃ X, X = (l.told k).urged := ⟨_, rfl⟩
  have hX2 : X = (l.urged || decide (l.epoch < k.epoch) || decide (k.kind = 1)) := hX
  have HX := Lib.hid hX
  clear hX
  go_upto_region 8 with fail
  go_cut [] (fun wx => Un w g { l with urged := X } k vi vp wx)
  case first =>
    cases hu : l.urged with
    | true =>
      have HQ := Lib.hid (show X = true by rw [hX2, hu]; rfl)
      clear hX2
      refine Draw.wp_region_prefix 22 (Un w g l k vi vp) (fun W W' => Below W.heap.size W W') (fun i W vv => match i with
          | 0 => vv = .pointer (some ⟨g, 0, none⟩)
          | 1 => vv = .pointer (some ⟨g, 0, none⟩)
          | 2 => vv = .pointer (some ⟨g, 0, none⟩)
          | 3 => vv = .pointer (some ⟨g, 8, none⟩)
          | 4 => vv = .bool true
          | 5 => vv = .bool true
          | 6 => vv = undef
          | 7 => vv = undef
          | 8 => vv = undef
          | 9 => vv = undef
          | 10 => vv = undef
          | 11 => vv = undef
          | 12 => vv = undef
          | 13 => vv = undef
          | 14 => vv = .bool true
          | 15 => vv = .bool true
          | 16 => vv = undef
          | 17 => vv = undef
          | 18 => vv = undef
          | 19 => vv = .bool true
          | 20 => vv = .pointer (some ⟨g, 0, none⟩)
          | _ => vv = .pointer (some ⟨g, 8, none⟩)) (by kernel_rfl) (by kernel_rfl) (by decide) rfl (by decide) (by decide) (by decide) ?_ ⟨HU3.out.a, HU3.out.b, HU3.out.kp.drew⟩ ?_ [49, 50, 51, 52, 53, 54, 55, 56, 57, 58, 59, 60, 61, 62, 63, 64, 65, 66, 67, 68, 69, 70] (by rfl) 1 (by rfl) ?_
      · intro i W W' vv he hf
        exact hf
      · refine ⟨?_, ?_, ?_, ?_, ?_, ?_, ?_, ?_, ?_, ?_, ?_, ?_, ?_, ?_, ?_, ?_, ?_, ?_, ?_, ?_, ?_, ?_, trivial⟩
        all_goals intro ρ W hJ hc hf hKn
        · refine Draw.Goes.plain rfl ?_
          exact Draw.Runs.value (w' := W) (v := ρ (.tmp 0)) rfl ⟨hJ, Below.refl _ _, hKn.1.2 0 rfl⟩
        · refine Draw.Goes.plain rfl ?_
          exact Draw.Runs.value (w' := W) (v := ρ (.tmp 0)) rfl ⟨hJ, Below.refl _ _, hKn.1.2 0 rfl⟩
        · refine Draw.Goes.plain rfl ?_
          have h0 : ρ (.tmp 50) = .pointer (some ⟨g, 0, none⟩) := hKn.1.get 1 50 rfl rfl
          refine Draw.Runs.value (w' := W) (v := .pointer (some ⟨g, 0, none⟩)) ?_ ⟨hJ, Below.refl _ _, rfl⟩
          simp only [execOp]; go_simp
        · refine Draw.Goes.plain rfl ?_
          have h0 : ρ (.tmp 51) = .pointer (some ⟨g, 0, none⟩) := hKn.1.get 2 51 rfl rfl
          refine Draw.Runs.value (w' := W) (v := .pointer (some ⟨g, 8, none⟩)) ?_ ⟨hJ, Below.refl _ _, rfl⟩
          simp only [execOp]; go_simp
        · refine Draw.Goes.plain rfl ?_
          have h0 : ρ (.tmp 52) = .pointer (some ⟨g, 8, none⟩) := hKn.1.get 3 52 rfl rfl
          have c : W.cell? ⟨g, 8, none⟩ = some (.bool true) := Blk.cell (W := W) hJ.a _ (by show some (Value.bool l.urged) = _; rw [hu])
          refine Draw.Runs.value (w' := W) (v := .bool true) ?_ ⟨hJ, Below.refl _ _, rfl⟩
          simp only [execOp]; go_simp
        · refine Draw.Goes.plain rfl ?_
          exact Draw.Runs.value (w' := W) (v := ρ (.tmp 53)) rfl ⟨hJ, Below.refl _ _, hKn.1.get 4 53 rfl rfl⟩
        · exact Draw.Goes.no 5 false 54 rfl rfl (hKn.1.get 5 54 rfl rfl) ⟨hJ, Below.refl _ _, rfl⟩
        · exact Draw.Goes.no 5 false 54 rfl rfl (hKn.1.get 5 54 rfl rfl) ⟨hJ, Below.refl _ _, rfl⟩
        · exact Draw.Goes.no 5 false 54 rfl rfl (hKn.1.get 5 54 rfl rfl) ⟨hJ, Below.refl _ _, rfl⟩
        · exact Draw.Goes.no 5 false 54 rfl rfl (hKn.1.get 5 54 rfl rfl) ⟨hJ, Below.refl _ _, rfl⟩
        · exact Draw.Goes.no 5 false 54 rfl rfl (hKn.1.get 5 54 rfl rfl) ⟨hJ, Below.refl _ _, rfl⟩
        · exact Draw.Goes.no 5 false 54 rfl rfl (hKn.1.get 5 54 rfl rfl) ⟨hJ, Below.refl _ _, rfl⟩
        · exact Draw.Goes.no 5 false 54 rfl rfl (hKn.1.get 5 54 rfl rfl) ⟨hJ, Below.refl _ _, rfl⟩
        · exact Draw.Goes.no 5 false 54 rfl rfl (hKn.1.get 5 54 rfl rfl) ⟨hJ, Below.refl _ _, rfl⟩
        · refine Draw.Goes.plain rfl ?_
          have h0 : ρ (.tmp 54) = .bool true := hKn.1.get 5 54 rfl rfl
          have h1 : ρ (.tmp 62) = undef := hKn.1.get 13 62 rfl rfl
          refine Draw.Runs.value (w' := W) (v := .bool true) ?_ ⟨hJ, Below.refl _ _, rfl⟩
          simp only [execOp]; go_simp
        · refine Draw.Goes.plain rfl ?_
          exact Draw.Runs.value (w' := W) (v := ρ (.tmp 63)) rfl ⟨hJ, Below.refl _ _, hKn.1.get 14 63 rfl rfl⟩
        · exact Draw.Goes.no 15 false 64 rfl rfl (hKn.1.get 15 64 rfl rfl) ⟨hJ, Below.refl _ _, rfl⟩
        · exact Draw.Goes.no 15 false 64 rfl rfl (hKn.1.get 15 64 rfl rfl) ⟨hJ, Below.refl _ _, rfl⟩
        · exact Draw.Goes.no 15 false 64 rfl rfl (hKn.1.get 15 64 rfl rfl) ⟨hJ, Below.refl _ _, rfl⟩
        · refine Draw.Goes.plain rfl ?_
          have h0 : ρ (.tmp 64) = .bool true := hKn.1.get 15 64 rfl rfl
          have h1 : ρ (.tmp 67) = undef := hKn.1.get 18 67 rfl rfl
          refine Draw.Runs.value (w' := W) (v := .bool true) ?_ ⟨hJ, Below.refl _ _, rfl⟩
          simp only [execOp]; go_simp
        · refine Draw.Goes.plain rfl ?_
          have h0 : ρ (.tmp 49) = .pointer (some ⟨g, 0, none⟩) := hKn.1.get 0 49 rfl rfl
          refine Draw.Runs.value (w' := W) (v := .pointer (some ⟨g, 0, none⟩)) ?_ ⟨hJ, Below.refl _ _, rfl⟩
          simp only [execOp]; go_simp
        · refine Draw.Goes.plain rfl ?_
          have h0 : ρ (.tmp 69) = .pointer (some ⟨g, 0, none⟩) := hKn.1.get 20 69 rfl rfl
          refine Draw.Runs.value (w' := W) (v := .pointer (some ⟨g, 8, none⟩)) ?_ ⟨hJ, Below.refl _ _, rfl⟩
          simp only [execOp]; go_simp
      · intro u W hJ hf
        have r68 : u 68 = .bool true := hf 19 _ 68 (by decide) rfl rfl
        have r70 : u 70 = .pointer (some ⟨g, 8, none⟩) := hf 21 _ 70 (by decide) rfl rfl
        simp only [List.foldl_cons, List.foldl_nil, List.setIfInBounds_toArray, List.set_cons_succ, List.set_cons_zero, r68, r70]
        have a8 : W.cell? ⟨g, 8, none⟩ = some (.bool l.urged) := hJ.a.cell _ rfl
        have f8 : W.frozen? ⟨g, 8, none⟩ = false := hJ.a.free
        refine Draw.wpAny_one (i := 22) (by kernel_rfl) rfl rfl ?_
        refine Draw.wp_skip (w' := W.setCell ⟨g, 8, none⟩ (.bool true)) (by simp only [execOp]; go_simp) ?_
        refine Draw.wpAny_end (by kernel_rfl) ?_
        have HS := Lib.hid (show Un w g { l with urged := true } k vi vp (W.setCell ⟨g, 8, none⟩ (.bool true)) from ⟨hJ.a.set (off := 8) (.bool true), far_blk hJ.b (by omega) _ _, hJ.kp.setCell ⟨g, 8, none⟩ rfl _⟩)
        clear hJ hf a8 f8
        go_wp2
        go_meet
        rw [HQ.out]
        exact HS.out
    | false =>
      by_cases h1 : l.epoch < k.epoch
      · have e1 : decide (l.epoch < k.epoch) = true := decide_eq_true h1
        have HQ := Lib.hid (show X = true by rw [hX2, hu, decide_eq_true h1]; rfl)
        clear hX2 h1
        refine Draw.wp_region_prefix 22 (Un w g l k vi vp) (fun W W' => Below W.heap.size W W') (fun i W vv => match i with
            | 0 => vv = .pointer (some ⟨g, 0, none⟩)
            | 1 => vv = .pointer (some ⟨g, 0, none⟩)
            | 2 => vv = .pointer (some ⟨g, 0, none⟩)
            | 3 => vv = .pointer (some ⟨g, 8, none⟩)
            | 4 => vv = .bool false
            | 5 => vv = .bool false
            | 6 => vv = .pointer (some ⟨w.heap.size, 2, none⟩)
            | 7 => vv = .int .u64 k.epoch
            | 8 => vv = .pointer (some ⟨g, 0, none⟩)
            | 9 => vv = .pointer (some ⟨g, 0, none⟩)
            | 10 => vv = .pointer (some ⟨g, 0, none⟩)
            | 11 => vv = .pointer (some ⟨g, 0, none⟩)
            | 12 => vv = .int .u64 l.epoch
            | 13 => vv = .bool true
            | 14 => vv = .bool true
            | 15 => vv = .bool true
            | 16 => vv = undef
            | 17 => vv = undef
            | 18 => vv = undef
            | 19 => vv = .bool true
            | 20 => vv = .pointer (some ⟨g, 0, none⟩)
            | _ => vv = .pointer (some ⟨g, 8, none⟩)) (by kernel_rfl) (by kernel_rfl) (by decide) rfl (by decide) (by decide) (by decide) ?_ ⟨HU3.out.a, HU3.out.b, HU3.out.kp.drew⟩ ?_ [49, 50, 51, 52, 53, 54, 55, 56, 57, 58, 59, 60, 61, 62, 63, 64, 65, 66, 67, 68, 69, 70] (by rfl) 1 (by rfl) ?_
        · intro i W W' vv he hf
          exact hf
        · refine ⟨?_, ?_, ?_, ?_, ?_, ?_, ?_, ?_, ?_, ?_, ?_, ?_, ?_, ?_, ?_, ?_, ?_, ?_, ?_, ?_, ?_, ?_, trivial⟩
          all_goals intro ρ W hJ hc hf hKn
          · refine Draw.Goes.plain rfl ?_
            exact Draw.Runs.value (w' := W) (v := ρ (.tmp 0)) rfl ⟨hJ, Below.refl _ _, hKn.1.2 0 rfl⟩
          · refine Draw.Goes.plain rfl ?_
            exact Draw.Runs.value (w' := W) (v := ρ (.tmp 0)) rfl ⟨hJ, Below.refl _ _, hKn.1.2 0 rfl⟩
          · refine Draw.Goes.plain rfl ?_
            have h0 : ρ (.tmp 50) = .pointer (some ⟨g, 0, none⟩) := hKn.1.get 1 50 rfl rfl
            refine Draw.Runs.value (w' := W) (v := .pointer (some ⟨g, 0, none⟩)) ?_ ⟨hJ, Below.refl _ _, rfl⟩
            simp only [execOp]; go_simp
          · refine Draw.Goes.plain rfl ?_
            have h0 : ρ (.tmp 51) = .pointer (some ⟨g, 0, none⟩) := hKn.1.get 2 51 rfl rfl
            refine Draw.Runs.value (w' := W) (v := .pointer (some ⟨g, 8, none⟩)) ?_ ⟨hJ, Below.refl _ _, rfl⟩
            simp only [execOp]; go_simp
          · refine Draw.Goes.plain rfl ?_
            have h0 : ρ (.tmp 52) = .pointer (some ⟨g, 8, none⟩) := hKn.1.get 3 52 rfl rfl
            have c : W.cell? ⟨g, 8, none⟩ = some (.bool false) := Blk.cell (W := W) hJ.a _ (by show some (Value.bool l.urged) = _; rw [hu])
            refine Draw.Runs.value (w' := W) (v := .bool false) ?_ ⟨hJ, Below.refl _ _, rfl⟩
            simp only [execOp]; go_simp
          · refine Draw.Goes.plain rfl ?_
            exact Draw.Runs.value (w' := W) (v := ρ (.tmp 53)) rfl ⟨hJ, Below.refl _ _, hKn.1.get 4 53 rfl rfl⟩
          · refine Draw.Goes.yes 5 false 54 rfl rfl (hKn.1.get 5 54 rfl rfl) ?_
            have h0 : ρ (.tmp 3) = .pointer (some ⟨w.heap.size, 0, none⟩) := hKn.1.2 3 rfl
            refine Draw.Runs.value (w' := W) (v := .pointer (some ⟨w.heap.size, 2, none⟩)) ?_ ⟨hJ, Below.refl _ _, rfl⟩
            simp only [execOp]; go_simp
          · refine Draw.Goes.yes 5 false 54 rfl rfl (hKn.1.get 5 54 rfl rfl) ?_
            have h0 : ρ (.tmp 55) = .pointer (some ⟨w.heap.size, 2, none⟩) := hKn.1.get 6 55 rfl rfl
            have c : W.cell? ⟨w.heap.size, 2, none⟩ = some (.int .u64 k.epoch) := Blk.cell (W := W) hJ.b _ rfl
            refine Draw.Runs.value (w' := W) (v := .int .u64 k.epoch) ?_ ⟨hJ, Below.refl _ _, rfl⟩
            simp only [execOp]; go_simp
          · refine Draw.Goes.yes 5 false 54 rfl rfl (hKn.1.get 5 54 rfl rfl) ?_
            exact Draw.Runs.value (w' := W) (v := ρ (.tmp 0)) rfl ⟨hJ, Below.refl _ _, hKn.1.2 0 rfl⟩
          · refine Draw.Goes.yes 5 false 54 rfl rfl (hKn.1.get 5 54 rfl rfl) ?_
            have h0 : ρ (.tmp 57) = .pointer (some ⟨g, 0, none⟩) := hKn.1.get 8 57 rfl rfl
            refine Draw.Runs.value (w' := W) (v := .pointer (some ⟨g, 0, none⟩)) ?_ ⟨hJ, Below.refl _ _, rfl⟩
            simp only [execOp]; go_simp
          · refine Draw.Goes.yes 5 false 54 rfl rfl (hKn.1.get 5 54 rfl rfl) ?_
            have h0 : ρ (.tmp 58) = .pointer (some ⟨g, 0, none⟩) := hKn.1.get 9 58 rfl rfl
            refine Draw.Runs.value (w' := W) (v := .pointer (some ⟨g, 0, none⟩)) ?_ ⟨hJ, Below.refl _ _, rfl⟩
            simp only [execOp]; go_simp
          · refine Draw.Goes.yes 5 false 54 rfl rfl (hKn.1.get 5 54 rfl rfl) ?_
            have h0 : ρ (.tmp 59) = .pointer (some ⟨g, 0, none⟩) := hKn.1.get 10 59 rfl rfl
            refine Draw.Runs.value (w' := W) (v := .pointer (some ⟨g, 0, none⟩)) ?_ ⟨hJ, Below.refl _ _, rfl⟩
            simp only [execOp]; go_simp
          · refine Draw.Goes.yes 5 false 54 rfl rfl (hKn.1.get 5 54 rfl rfl) ?_
            have h0 : ρ (.tmp 60) = .pointer (some ⟨g, 0, none⟩) := hKn.1.get 11 60 rfl rfl
            have c : W.cell? ⟨g, 0, none⟩ = some (.int .u64 l.epoch) := Blk.cell (W := W) hJ.a _ rfl
            refine Draw.Runs.value (w' := W) (v := .int .u64 l.epoch) ?_ ⟨hJ, Below.refl _ _, rfl⟩
            simp only [execOp]; go_simp
          · refine Draw.Goes.yes 5 false 54 rfl rfl (hKn.1.get 5 54 rfl rfl) ?_
            have h0 : ρ (.tmp 56) = .int .u64 k.epoch := hKn.1.get 7 56 rfl rfl
            have h1 : ρ (.tmp 61) = .int .u64 l.epoch := hKn.1.get 12 61 rfl rfl
            refine Draw.Runs.value (w' := W) (v := .bool true) ?_ ⟨hJ, Below.refl _ _, rfl⟩
            simp only [execOp]; go_simp
          · refine Draw.Goes.plain rfl ?_
            have h0 : ρ (.tmp 54) = .bool false := hKn.1.get 5 54 rfl rfl
            have h1 : ρ (.tmp 62) = .bool true := hKn.1.get 13 62 rfl rfl
            refine Draw.Runs.value (w' := W) (v := .bool true) ?_ ⟨hJ, Below.refl _ _, rfl⟩
            simp only [execOp]; go_simp
          · refine Draw.Goes.plain rfl ?_
            exact Draw.Runs.value (w' := W) (v := ρ (.tmp 63)) rfl ⟨hJ, Below.refl _ _, hKn.1.get 14 63 rfl rfl⟩
          · exact Draw.Goes.no 15 false 64 rfl rfl (hKn.1.get 15 64 rfl rfl) ⟨hJ, Below.refl _ _, rfl⟩
          · exact Draw.Goes.no 15 false 64 rfl rfl (hKn.1.get 15 64 rfl rfl) ⟨hJ, Below.refl _ _, rfl⟩
          · exact Draw.Goes.no 15 false 64 rfl rfl (hKn.1.get 15 64 rfl rfl) ⟨hJ, Below.refl _ _, rfl⟩
          · refine Draw.Goes.plain rfl ?_
            have h0 : ρ (.tmp 64) = .bool true := hKn.1.get 15 64 rfl rfl
            have h1 : ρ (.tmp 67) = undef := hKn.1.get 18 67 rfl rfl
            refine Draw.Runs.value (w' := W) (v := .bool true) ?_ ⟨hJ, Below.refl _ _, rfl⟩
            simp only [execOp]; go_simp
          · refine Draw.Goes.plain rfl ?_
            have h0 : ρ (.tmp 49) = .pointer (some ⟨g, 0, none⟩) := hKn.1.get 0 49 rfl rfl
            refine Draw.Runs.value (w' := W) (v := .pointer (some ⟨g, 0, none⟩)) ?_ ⟨hJ, Below.refl _ _, rfl⟩
            simp only [execOp]; go_simp
          · refine Draw.Goes.plain rfl ?_
            have h0 : ρ (.tmp 69) = .pointer (some ⟨g, 0, none⟩) := hKn.1.get 20 69 rfl rfl
            refine Draw.Runs.value (w' := W) (v := .pointer (some ⟨g, 8, none⟩)) ?_ ⟨hJ, Below.refl _ _, rfl⟩
            simp only [execOp]; go_simp
        · intro u W hJ hf
          have r68 : u 68 = .bool true := hf 19 _ 68 (by decide) rfl rfl
          have r70 : u 70 = .pointer (some ⟨g, 8, none⟩) := hf 21 _ 70 (by decide) rfl rfl
          simp only [List.foldl_cons, List.foldl_nil, List.setIfInBounds_toArray, List.set_cons_succ, List.set_cons_zero, r68, r70]
          have a8 : W.cell? ⟨g, 8, none⟩ = some (.bool l.urged) := hJ.a.cell _ rfl
          have f8 : W.frozen? ⟨g, 8, none⟩ = false := hJ.a.free
          refine Draw.wpAny_one (i := 22) (by kernel_rfl) rfl rfl ?_
          refine Draw.wp_skip (w' := W.setCell ⟨g, 8, none⟩ (.bool true)) (by simp only [execOp]; go_simp) ?_
          refine Draw.wpAny_end (by kernel_rfl) ?_
          have HS := Lib.hid (show Un w g { l with urged := true } k vi vp (W.setCell ⟨g, 8, none⟩ (.bool true)) from ⟨hJ.a.set (off := 8) (.bool true), far_blk hJ.b (by omega) _ _, hJ.kp.setCell ⟨g, 8, none⟩ rfl _⟩)
          clear hJ hf a8 f8
          go_wp2
          go_meet
          rw [HQ.out]
          exact HS.out
      · have e1 : decide (l.epoch < k.epoch) = false := decide_eq_false h1
        by_cases h3 : k.kind = 1
        · have e3 : (k.kind == 1) = true := by rw [beq_iff_eq]; exact h3
          have HQ := Lib.hid (show X = true by rw [hX2, hu, decide_eq_false h1, decide_eq_true h3]; rfl)
          clear hX2 h1 h3
          refine Draw.wp_region_prefix 22 (Un w g l k vi vp) (fun W W' => Below W.heap.size W W') (fun i W vv => match i with
              | 0 => vv = .pointer (some ⟨g, 0, none⟩)
              | 1 => vv = .pointer (some ⟨g, 0, none⟩)
              | 2 => vv = .pointer (some ⟨g, 0, none⟩)
              | 3 => vv = .pointer (some ⟨g, 8, none⟩)
              | 4 => vv = .bool false
              | 5 => vv = .bool false
              | 6 => vv = .pointer (some ⟨w.heap.size, 2, none⟩)
              | 7 => vv = .int .u64 k.epoch
              | 8 => vv = .pointer (some ⟨g, 0, none⟩)
              | 9 => vv = .pointer (some ⟨g, 0, none⟩)
              | 10 => vv = .pointer (some ⟨g, 0, none⟩)
              | 11 => vv = .pointer (some ⟨g, 0, none⟩)
              | 12 => vv = .int .u64 l.epoch
              | 13 => vv = .bool false
              | 14 => vv = .bool false
              | 15 => vv = .bool false
              | 16 => vv = .pointer (some ⟨w.heap.size, 0, none⟩)
              | 17 => vv = .int .i64 k.kind
              | 18 => vv = .bool true
              | 19 => vv = .bool true
              | 20 => vv = .pointer (some ⟨g, 0, none⟩)
              | _ => vv = .pointer (some ⟨g, 8, none⟩)) (by kernel_rfl) (by kernel_rfl) (by decide) rfl (by decide) (by decide) (by decide) ?_ ⟨HU3.out.a, HU3.out.b, HU3.out.kp.drew⟩ ?_ [49, 50, 51, 52, 53, 54, 55, 56, 57, 58, 59, 60, 61, 62, 63, 64, 65, 66, 67, 68, 69, 70] (by rfl) 1 (by rfl) ?_
          · intro i W W' vv he hf
            exact hf
          · refine ⟨?_, ?_, ?_, ?_, ?_, ?_, ?_, ?_, ?_, ?_, ?_, ?_, ?_, ?_, ?_, ?_, ?_, ?_, ?_, ?_, ?_, ?_, trivial⟩
            all_goals intro ρ W hJ hc hf hKn
            · refine Draw.Goes.plain rfl ?_
              exact Draw.Runs.value (w' := W) (v := ρ (.tmp 0)) rfl ⟨hJ, Below.refl _ _, hKn.1.2 0 rfl⟩
            · refine Draw.Goes.plain rfl ?_
              exact Draw.Runs.value (w' := W) (v := ρ (.tmp 0)) rfl ⟨hJ, Below.refl _ _, hKn.1.2 0 rfl⟩
            · refine Draw.Goes.plain rfl ?_
              have h0 : ρ (.tmp 50) = .pointer (some ⟨g, 0, none⟩) := hKn.1.get 1 50 rfl rfl
              refine Draw.Runs.value (w' := W) (v := .pointer (some ⟨g, 0, none⟩)) ?_ ⟨hJ, Below.refl _ _, rfl⟩
              simp only [execOp]; go_simp
            · refine Draw.Goes.plain rfl ?_
              have h0 : ρ (.tmp 51) = .pointer (some ⟨g, 0, none⟩) := hKn.1.get 2 51 rfl rfl
              refine Draw.Runs.value (w' := W) (v := .pointer (some ⟨g, 8, none⟩)) ?_ ⟨hJ, Below.refl _ _, rfl⟩
              simp only [execOp]; go_simp
            · refine Draw.Goes.plain rfl ?_
              have h0 : ρ (.tmp 52) = .pointer (some ⟨g, 8, none⟩) := hKn.1.get 3 52 rfl rfl
              have c : W.cell? ⟨g, 8, none⟩ = some (.bool false) := Blk.cell (W := W) hJ.a _ (by show some (Value.bool l.urged) = _; rw [hu])
              refine Draw.Runs.value (w' := W) (v := .bool false) ?_ ⟨hJ, Below.refl _ _, rfl⟩
              simp only [execOp]; go_simp
            · refine Draw.Goes.plain rfl ?_
              exact Draw.Runs.value (w' := W) (v := ρ (.tmp 53)) rfl ⟨hJ, Below.refl _ _, hKn.1.get 4 53 rfl rfl⟩
            · refine Draw.Goes.yes 5 false 54 rfl rfl (hKn.1.get 5 54 rfl rfl) ?_
              have h0 : ρ (.tmp 3) = .pointer (some ⟨w.heap.size, 0, none⟩) := hKn.1.2 3 rfl
              refine Draw.Runs.value (w' := W) (v := .pointer (some ⟨w.heap.size, 2, none⟩)) ?_ ⟨hJ, Below.refl _ _, rfl⟩
              simp only [execOp]; go_simp
            · refine Draw.Goes.yes 5 false 54 rfl rfl (hKn.1.get 5 54 rfl rfl) ?_
              have h0 : ρ (.tmp 55) = .pointer (some ⟨w.heap.size, 2, none⟩) := hKn.1.get 6 55 rfl rfl
              have c : W.cell? ⟨w.heap.size, 2, none⟩ = some (.int .u64 k.epoch) := Blk.cell (W := W) hJ.b _ rfl
              refine Draw.Runs.value (w' := W) (v := .int .u64 k.epoch) ?_ ⟨hJ, Below.refl _ _, rfl⟩
              simp only [execOp]; go_simp
            · refine Draw.Goes.yes 5 false 54 rfl rfl (hKn.1.get 5 54 rfl rfl) ?_
              exact Draw.Runs.value (w' := W) (v := ρ (.tmp 0)) rfl ⟨hJ, Below.refl _ _, hKn.1.2 0 rfl⟩
            · refine Draw.Goes.yes 5 false 54 rfl rfl (hKn.1.get 5 54 rfl rfl) ?_
              have h0 : ρ (.tmp 57) = .pointer (some ⟨g, 0, none⟩) := hKn.1.get 8 57 rfl rfl
              refine Draw.Runs.value (w' := W) (v := .pointer (some ⟨g, 0, none⟩)) ?_ ⟨hJ, Below.refl _ _, rfl⟩
              simp only [execOp]; go_simp
            · refine Draw.Goes.yes 5 false 54 rfl rfl (hKn.1.get 5 54 rfl rfl) ?_
              have h0 : ρ (.tmp 58) = .pointer (some ⟨g, 0, none⟩) := hKn.1.get 9 58 rfl rfl
              refine Draw.Runs.value (w' := W) (v := .pointer (some ⟨g, 0, none⟩)) ?_ ⟨hJ, Below.refl _ _, rfl⟩
              simp only [execOp]; go_simp
            · refine Draw.Goes.yes 5 false 54 rfl rfl (hKn.1.get 5 54 rfl rfl) ?_
              have h0 : ρ (.tmp 59) = .pointer (some ⟨g, 0, none⟩) := hKn.1.get 10 59 rfl rfl
              refine Draw.Runs.value (w' := W) (v := .pointer (some ⟨g, 0, none⟩)) ?_ ⟨hJ, Below.refl _ _, rfl⟩
              simp only [execOp]; go_simp
            · refine Draw.Goes.yes 5 false 54 rfl rfl (hKn.1.get 5 54 rfl rfl) ?_
              have h0 : ρ (.tmp 60) = .pointer (some ⟨g, 0, none⟩) := hKn.1.get 11 60 rfl rfl
              have c : W.cell? ⟨g, 0, none⟩ = some (.int .u64 l.epoch) := Blk.cell (W := W) hJ.a _ rfl
              refine Draw.Runs.value (w' := W) (v := .int .u64 l.epoch) ?_ ⟨hJ, Below.refl _ _, rfl⟩
              simp only [execOp]; go_simp
            · refine Draw.Goes.yes 5 false 54 rfl rfl (hKn.1.get 5 54 rfl rfl) ?_
              have h0 : ρ (.tmp 56) = .int .u64 k.epoch := hKn.1.get 7 56 rfl rfl
              have h1 : ρ (.tmp 61) = .int .u64 l.epoch := hKn.1.get 12 61 rfl rfl
              refine Draw.Runs.value (w' := W) (v := .bool false) ?_ ⟨hJ, Below.refl _ _, rfl⟩
              simp only [execOp]; go_simp
            · refine Draw.Goes.plain rfl ?_
              have h0 : ρ (.tmp 54) = .bool false := hKn.1.get 5 54 rfl rfl
              have h1 : ρ (.tmp 62) = .bool false := hKn.1.get 13 62 rfl rfl
              refine Draw.Runs.value (w' := W) (v := .bool false) ?_ ⟨hJ, Below.refl _ _, rfl⟩
              simp only [execOp]; go_simp
            · refine Draw.Goes.plain rfl ?_
              exact Draw.Runs.value (w' := W) (v := ρ (.tmp 63)) rfl ⟨hJ, Below.refl _ _, hKn.1.get 14 63 rfl rfl⟩
            · refine Draw.Goes.yes 15 false 64 rfl rfl (hKn.1.get 15 64 rfl rfl) ?_
              have h0 : ρ (.tmp 3) = .pointer (some ⟨w.heap.size, 0, none⟩) := hKn.1.2 3 rfl
              refine Draw.Runs.value (w' := W) (v := .pointer (some ⟨w.heap.size, 0, none⟩)) ?_ ⟨hJ, Below.refl _ _, rfl⟩
              simp only [execOp]; go_simp
            · refine Draw.Goes.yes 15 false 64 rfl rfl (hKn.1.get 15 64 rfl rfl) ?_
              have h0 : ρ (.tmp 65) = .pointer (some ⟨w.heap.size, 0, none⟩) := hKn.1.get 16 65 rfl rfl
              have c : W.cell? ⟨w.heap.size, 0, none⟩ = some (.int .i64 k.kind) := Blk.cell (W := W) hJ.b _ rfl
              refine Draw.Runs.value (w' := W) (v := .int .i64 k.kind) ?_ ⟨hJ, Below.refl _ _, rfl⟩
              simp only [execOp]; go_simp
            · refine Draw.Goes.yes 15 false 64 rfl rfl (hKn.1.get 15 64 rfl rfl) ?_
              have h0 : ρ (.tmp 66) = .int .i64 k.kind := hKn.1.get 17 66 rfl rfl
              refine Draw.Runs.value (w' := W) (v := .bool true) ?_ ⟨hJ, Below.refl _ _, rfl⟩
              simp only [execOp]; go_simp
            · refine Draw.Goes.plain rfl ?_
              have h0 : ρ (.tmp 64) = .bool false := hKn.1.get 15 64 rfl rfl
              have h1 : ρ (.tmp 67) = .bool true := hKn.1.get 18 67 rfl rfl
              refine Draw.Runs.value (w' := W) (v := .bool true) ?_ ⟨hJ, Below.refl _ _, rfl⟩
              simp only [execOp]; go_simp
            · refine Draw.Goes.plain rfl ?_
              have h0 : ρ (.tmp 49) = .pointer (some ⟨g, 0, none⟩) := hKn.1.get 0 49 rfl rfl
              refine Draw.Runs.value (w' := W) (v := .pointer (some ⟨g, 0, none⟩)) ?_ ⟨hJ, Below.refl _ _, rfl⟩
              simp only [execOp]; go_simp
            · refine Draw.Goes.plain rfl ?_
              have h0 : ρ (.tmp 69) = .pointer (some ⟨g, 0, none⟩) := hKn.1.get 20 69 rfl rfl
              refine Draw.Runs.value (w' := W) (v := .pointer (some ⟨g, 8, none⟩)) ?_ ⟨hJ, Below.refl _ _, rfl⟩
              simp only [execOp]; go_simp
          · intro u W hJ hf
            have r68 : u 68 = .bool true := hf 19 _ 68 (by decide) rfl rfl
            have r70 : u 70 = .pointer (some ⟨g, 8, none⟩) := hf 21 _ 70 (by decide) rfl rfl
            simp only [List.foldl_cons, List.foldl_nil, List.setIfInBounds_toArray, List.set_cons_succ, List.set_cons_zero, r68, r70]
            have a8 : W.cell? ⟨g, 8, none⟩ = some (.bool l.urged) := hJ.a.cell _ rfl
            have f8 : W.frozen? ⟨g, 8, none⟩ = false := hJ.a.free
            refine Draw.wpAny_one (i := 22) (by kernel_rfl) rfl rfl ?_
            refine Draw.wp_skip (w' := W.setCell ⟨g, 8, none⟩ (.bool true)) (by simp only [execOp]; go_simp) ?_
            refine Draw.wpAny_end (by kernel_rfl) ?_
            have HS := Lib.hid (show Un w g { l with urged := true } k vi vp (W.setCell ⟨g, 8, none⟩ (.bool true)) from ⟨hJ.a.set (off := 8) (.bool true), far_blk hJ.b (by omega) _ _, hJ.kp.setCell ⟨g, 8, none⟩ rfl _⟩)
            clear hJ hf a8 f8
            go_wp2
            go_meet
            rw [HQ.out]
            exact HS.out
        · have e3 : (k.kind == 1) = false := by rw [beq_eq_false_iff_ne]; exact h3
          have HQ := Lib.hid (show X = false by rw [hX2, hu, decide_eq_false h1, decide_eq_false h3]; rfl)
          clear hX2 h1 h3
          refine Draw.wp_region_prefix 22 (Un w g l k vi vp) (fun W W' => Below W.heap.size W W') (fun i W vv => match i with
              | 0 => vv = .pointer (some ⟨g, 0, none⟩)
              | 1 => vv = .pointer (some ⟨g, 0, none⟩)
              | 2 => vv = .pointer (some ⟨g, 0, none⟩)
              | 3 => vv = .pointer (some ⟨g, 8, none⟩)
              | 4 => vv = .bool false
              | 5 => vv = .bool false
              | 6 => vv = .pointer (some ⟨w.heap.size, 2, none⟩)
              | 7 => vv = .int .u64 k.epoch
              | 8 => vv = .pointer (some ⟨g, 0, none⟩)
              | 9 => vv = .pointer (some ⟨g, 0, none⟩)
              | 10 => vv = .pointer (some ⟨g, 0, none⟩)
              | 11 => vv = .pointer (some ⟨g, 0, none⟩)
              | 12 => vv = .int .u64 l.epoch
              | 13 => vv = .bool false
              | 14 => vv = .bool false
              | 15 => vv = .bool false
              | 16 => vv = .pointer (some ⟨w.heap.size, 0, none⟩)
              | 17 => vv = .int .i64 k.kind
              | 18 => vv = .bool false
              | 19 => vv = .bool false
              | 20 => vv = .pointer (some ⟨g, 0, none⟩)
              | _ => vv = .pointer (some ⟨g, 8, none⟩)) (by kernel_rfl) (by kernel_rfl) (by decide) rfl (by decide) (by decide) (by decide) ?_ ⟨HU3.out.a, HU3.out.b, HU3.out.kp.drew⟩ ?_ [49, 50, 51, 52, 53, 54, 55, 56, 57, 58, 59, 60, 61, 62, 63, 64, 65, 66, 67, 68, 69, 70] (by rfl) 1 (by rfl) ?_
          · intro i W W' vv he hf
            exact hf
          · refine ⟨?_, ?_, ?_, ?_, ?_, ?_, ?_, ?_, ?_, ?_, ?_, ?_, ?_, ?_, ?_, ?_, ?_, ?_, ?_, ?_, ?_, ?_, trivial⟩
            all_goals intro ρ W hJ hc hf hKn
            · refine Draw.Goes.plain rfl ?_
              exact Draw.Runs.value (w' := W) (v := ρ (.tmp 0)) rfl ⟨hJ, Below.refl _ _, hKn.1.2 0 rfl⟩
            · refine Draw.Goes.plain rfl ?_
              exact Draw.Runs.value (w' := W) (v := ρ (.tmp 0)) rfl ⟨hJ, Below.refl _ _, hKn.1.2 0 rfl⟩
            · refine Draw.Goes.plain rfl ?_
              have h0 : ρ (.tmp 50) = .pointer (some ⟨g, 0, none⟩) := hKn.1.get 1 50 rfl rfl
              refine Draw.Runs.value (w' := W) (v := .pointer (some ⟨g, 0, none⟩)) ?_ ⟨hJ, Below.refl _ _, rfl⟩
              simp only [execOp]; go_simp
            · refine Draw.Goes.plain rfl ?_
              have h0 : ρ (.tmp 51) = .pointer (some ⟨g, 0, none⟩) := hKn.1.get 2 51 rfl rfl
              refine Draw.Runs.value (w' := W) (v := .pointer (some ⟨g, 8, none⟩)) ?_ ⟨hJ, Below.refl _ _, rfl⟩
              simp only [execOp]; go_simp
            · refine Draw.Goes.plain rfl ?_
              have h0 : ρ (.tmp 52) = .pointer (some ⟨g, 8, none⟩) := hKn.1.get 3 52 rfl rfl
              have c : W.cell? ⟨g, 8, none⟩ = some (.bool false) := Blk.cell (W := W) hJ.a _ (by show some (Value.bool l.urged) = _; rw [hu])
              refine Draw.Runs.value (w' := W) (v := .bool false) ?_ ⟨hJ, Below.refl _ _, rfl⟩
              simp only [execOp]; go_simp
            · refine Draw.Goes.plain rfl ?_
              exact Draw.Runs.value (w' := W) (v := ρ (.tmp 53)) rfl ⟨hJ, Below.refl _ _, hKn.1.get 4 53 rfl rfl⟩
            · refine Draw.Goes.yes 5 false 54 rfl rfl (hKn.1.get 5 54 rfl rfl) ?_
              have h0 : ρ (.tmp 3) = .pointer (some ⟨w.heap.size, 0, none⟩) := hKn.1.2 3 rfl
              refine Draw.Runs.value (w' := W) (v := .pointer (some ⟨w.heap.size, 2, none⟩)) ?_ ⟨hJ, Below.refl _ _, rfl⟩
              simp only [execOp]; go_simp
            · refine Draw.Goes.yes 5 false 54 rfl rfl (hKn.1.get 5 54 rfl rfl) ?_
              have h0 : ρ (.tmp 55) = .pointer (some ⟨w.heap.size, 2, none⟩) := hKn.1.get 6 55 rfl rfl
              have c : W.cell? ⟨w.heap.size, 2, none⟩ = some (.int .u64 k.epoch) := Blk.cell (W := W) hJ.b _ rfl
              refine Draw.Runs.value (w' := W) (v := .int .u64 k.epoch) ?_ ⟨hJ, Below.refl _ _, rfl⟩
              simp only [execOp]; go_simp
            · refine Draw.Goes.yes 5 false 54 rfl rfl (hKn.1.get 5 54 rfl rfl) ?_
              exact Draw.Runs.value (w' := W) (v := ρ (.tmp 0)) rfl ⟨hJ, Below.refl _ _, hKn.1.2 0 rfl⟩
            · refine Draw.Goes.yes 5 false 54 rfl rfl (hKn.1.get 5 54 rfl rfl) ?_
              have h0 : ρ (.tmp 57) = .pointer (some ⟨g, 0, none⟩) := hKn.1.get 8 57 rfl rfl
              refine Draw.Runs.value (w' := W) (v := .pointer (some ⟨g, 0, none⟩)) ?_ ⟨hJ, Below.refl _ _, rfl⟩
              simp only [execOp]; go_simp
            · refine Draw.Goes.yes 5 false 54 rfl rfl (hKn.1.get 5 54 rfl rfl) ?_
              have h0 : ρ (.tmp 58) = .pointer (some ⟨g, 0, none⟩) := hKn.1.get 9 58 rfl rfl
              refine Draw.Runs.value (w' := W) (v := .pointer (some ⟨g, 0, none⟩)) ?_ ⟨hJ, Below.refl _ _, rfl⟩
              simp only [execOp]; go_simp
            · refine Draw.Goes.yes 5 false 54 rfl rfl (hKn.1.get 5 54 rfl rfl) ?_
              have h0 : ρ (.tmp 59) = .pointer (some ⟨g, 0, none⟩) := hKn.1.get 10 59 rfl rfl
              refine Draw.Runs.value (w' := W) (v := .pointer (some ⟨g, 0, none⟩)) ?_ ⟨hJ, Below.refl _ _, rfl⟩
              simp only [execOp]; go_simp
            · refine Draw.Goes.yes 5 false 54 rfl rfl (hKn.1.get 5 54 rfl rfl) ?_
              have h0 : ρ (.tmp 60) = .pointer (some ⟨g, 0, none⟩) := hKn.1.get 11 60 rfl rfl
              have c : W.cell? ⟨g, 0, none⟩ = some (.int .u64 l.epoch) := Blk.cell (W := W) hJ.a _ rfl
              refine Draw.Runs.value (w' := W) (v := .int .u64 l.epoch) ?_ ⟨hJ, Below.refl _ _, rfl⟩
              simp only [execOp]; go_simp
            · refine Draw.Goes.yes 5 false 54 rfl rfl (hKn.1.get 5 54 rfl rfl) ?_
              have h0 : ρ (.tmp 56) = .int .u64 k.epoch := hKn.1.get 7 56 rfl rfl
              have h1 : ρ (.tmp 61) = .int .u64 l.epoch := hKn.1.get 12 61 rfl rfl
              refine Draw.Runs.value (w' := W) (v := .bool false) ?_ ⟨hJ, Below.refl _ _, rfl⟩
              simp only [execOp]; go_simp
            · refine Draw.Goes.plain rfl ?_
              have h0 : ρ (.tmp 54) = .bool false := hKn.1.get 5 54 rfl rfl
              have h1 : ρ (.tmp 62) = .bool false := hKn.1.get 13 62 rfl rfl
              refine Draw.Runs.value (w' := W) (v := .bool false) ?_ ⟨hJ, Below.refl _ _, rfl⟩
              simp only [execOp]; go_simp
            · refine Draw.Goes.plain rfl ?_
              exact Draw.Runs.value (w' := W) (v := ρ (.tmp 63)) rfl ⟨hJ, Below.refl _ _, hKn.1.get 14 63 rfl rfl⟩
            · refine Draw.Goes.yes 15 false 64 rfl rfl (hKn.1.get 15 64 rfl rfl) ?_
              have h0 : ρ (.tmp 3) = .pointer (some ⟨w.heap.size, 0, none⟩) := hKn.1.2 3 rfl
              refine Draw.Runs.value (w' := W) (v := .pointer (some ⟨w.heap.size, 0, none⟩)) ?_ ⟨hJ, Below.refl _ _, rfl⟩
              simp only [execOp]; go_simp
            · refine Draw.Goes.yes 15 false 64 rfl rfl (hKn.1.get 15 64 rfl rfl) ?_
              have h0 : ρ (.tmp 65) = .pointer (some ⟨w.heap.size, 0, none⟩) := hKn.1.get 16 65 rfl rfl
              have c : W.cell? ⟨w.heap.size, 0, none⟩ = some (.int .i64 k.kind) := Blk.cell (W := W) hJ.b _ rfl
              refine Draw.Runs.value (w' := W) (v := .int .i64 k.kind) ?_ ⟨hJ, Below.refl _ _, rfl⟩
              simp only [execOp]; go_simp
            · refine Draw.Goes.yes 15 false 64 rfl rfl (hKn.1.get 15 64 rfl rfl) ?_
              have h0 : ρ (.tmp 66) = .int .i64 k.kind := hKn.1.get 17 66 rfl rfl
              refine Draw.Runs.value (w' := W) (v := .bool false) ?_ ⟨hJ, Below.refl _ _, rfl⟩
              simp only [execOp]; go_simp
            · refine Draw.Goes.plain rfl ?_
              have h0 : ρ (.tmp 64) = .bool false := hKn.1.get 15 64 rfl rfl
              have h1 : ρ (.tmp 67) = .bool false := hKn.1.get 18 67 rfl rfl
              refine Draw.Runs.value (w' := W) (v := .bool false) ?_ ⟨hJ, Below.refl _ _, rfl⟩
              simp only [execOp]; go_simp
            · refine Draw.Goes.plain rfl ?_
              have h0 : ρ (.tmp 49) = .pointer (some ⟨g, 0, none⟩) := hKn.1.get 0 49 rfl rfl
              refine Draw.Runs.value (w' := W) (v := .pointer (some ⟨g, 0, none⟩)) ?_ ⟨hJ, Below.refl _ _, rfl⟩
              simp only [execOp]; go_simp
            · refine Draw.Goes.plain rfl ?_
              have h0 : ρ (.tmp 69) = .pointer (some ⟨g, 0, none⟩) := hKn.1.get 20 69 rfl rfl
              refine Draw.Runs.value (w' := W) (v := .pointer (some ⟨g, 8, none⟩)) ?_ ⟨hJ, Below.refl _ _, rfl⟩
              simp only [execOp]; go_simp
          · intro u W hJ hf
            have r68 : u 68 = .bool false := hf 19 _ 68 (by decide) rfl rfl
            have r70 : u 70 = .pointer (some ⟨g, 8, none⟩) := hf 21 _ 70 (by decide) rfl rfl
            simp only [List.foldl_cons, List.foldl_nil, List.setIfInBounds_toArray, List.set_cons_succ, List.set_cons_zero, r68, r70]
            have a8 : W.cell? ⟨g, 8, none⟩ = some (.bool l.urged) := hJ.a.cell _ rfl
            have f8 : W.frozen? ⟨g, 8, none⟩ = false := hJ.a.free
            refine Draw.wpAny_one (i := 22) (by kernel_rfl) rfl rfl ?_
            refine Draw.wp_skip (w' := W.setCell ⟨g, 8, none⟩ (.bool false)) (by simp only [execOp]; go_simp) ?_
            refine Draw.wpAny_end (by kernel_rfl) ?_
            have HS := Lib.hid (show Un w g { l with urged := false } k vi vp (W.setCell ⟨g, 8, none⟩ (.bool false)) from ⟨hJ.a.set (off := 8) (.bool false), far_blk hJ.b (by omega) _ _, hJ.kp.setCell ⟨g, 8, none⟩ rfl _⟩)
            clear hJ hf a8 f8
            go_wp2
            go_meet
            rw [HQ.out]
            exact HS.out
  case rest =>
  have hU4 := hcut
  clear hcut
  go_upto_region 9 with fail
  refine Draw.wp_region_prefix 11 (Un w g { l with urged := X } k vi vp) (fun W W' => Below W.heap.size W W') (fun i W vv => match i with
      | 0 => vv = .pointer (some ⟨g, 0, none⟩)
      | 1 => vv = .pointer (some ⟨g, 0, none⟩)
      | 2 => vv = .pointer (some ⟨g, 0, none⟩)
      | 3 => vv = .agg (kc l.epoch l.count l.owned l.met)
      | 4 => vv = .agg (pc k vi vp)
      | 5 => vv = .pointer (some ⟨g, 0, none⟩)
      | 6 => vv = .pointer (some ⟨g, 0, none⟩)
      | 7 => vv = .pointer (some ⟨g, 5, none⟩)
      | 8 => vv = .int .u64 l.own
      | 9 => vv = .agg (kc (l.told k).epoch (l.told k).count (l.told k).owned (l.told k).met)
      | _ => PtrT KT (kc 0 0 0 false) (w.heap.size + 1) W vv) (by kernel_rfl) (by kernel_rfl) (by decide) rfl (by decide) (by decide) (by decide) ?_ ⟨hU4.a, hU4.b, hU4.kp.drew⟩ ?_ [71, 72, 73, 74, 75, 76, 77, 78, 79, 80, 7] (by rfl) 1 (by rfl) ?_
  · intro i W W' vv he hf
    match i with
    | n + 10 => exact PtrT.call hf he
    | 0 | 1 | 2 | 3 | 4 | 5 | 6 | 7 | 8 | 9 => exact hf
  · refine ⟨?_, ?_, ?_, ?_, ?_, ?_, ?_, ?_, ?_, ?_, ?_, trivial⟩
    all_goals intro ρ W hJ hc hf hKn
    · refine Draw.Goes.plain rfl ?_
      exact Draw.Runs.value (w' := W) (v := ρ (.tmp 0)) rfl ⟨hJ, Below.refl _ _, hKn.1.2 0 rfl⟩
    · refine Draw.Goes.plain rfl ?_
      have h0 : ρ (.tmp 71) = .pointer (some ⟨g, 0, none⟩) := hKn.1.get 0 71 rfl rfl
      refine Draw.Runs.value (w' := W) (v := .pointer (some ⟨g, 0, none⟩)) ?_ ⟨hJ, Below.refl _ _, rfl⟩
      simp only [execOp]; go_simp
    · refine Draw.Goes.plain rfl ?_
      have h0 : ρ (.tmp 72) = .pointer (some ⟨g, 0, none⟩) := hKn.1.get 1 72 rfl rfl
      refine Draw.Runs.value (w' := W) (v := .pointer (some ⟨g, 0, none⟩)) ?_ ⟨hJ, Below.refl _ _, rfl⟩
      simp only [execOp]; go_simp
    · refine Draw.Goes.plain rfl ?_
      have h0 : ρ (.tmp 73) = .pointer (some ⟨g, 0, none⟩) := hKn.1.get 2 73 rfl rfl
      exact Draw.Runs.value (w' := W) (v := .agg (kc l.epoch l.count l.owned l.met)) (exec_load_kn _ g { l with urged := X } hJ.a rfl h0) ⟨hJ, Below.refl _ _, rfl⟩
    · refine Draw.Goes.plain rfl ?_
      have h0 : ρ (.tmp 3) = .pointer (some ⟨w.heap.size, 0, none⟩) := hKn.1.2 3 rfl
      refine Draw.Runs.value (w' := W) (v := .agg (pc k vi vp)) ?_ ⟨hJ, Below.refl _ _, rfl⟩
      exact Draw.load_row 26 _ rfl _ h0 26 _ (0, 0) _ hJ.b Tryd.underlying26 rfl (pc_info k vi vp)
    · refine Draw.Goes.plain rfl ?_
      exact Draw.Runs.value (w' := W) (v := ρ (.tmp 0)) rfl ⟨hJ, Below.refl _ _, hKn.1.2 0 rfl⟩
    · refine Draw.Goes.plain rfl ?_
      have h0 : ρ (.tmp 76) = .pointer (some ⟨g, 0, none⟩) := hKn.1.get 5 76 rfl rfl
      refine Draw.Runs.value (w' := W) (v := .pointer (some ⟨g, 0, none⟩)) ?_ ⟨hJ, Below.refl _ _, rfl⟩
      simp only [execOp]; go_simp
    · refine Draw.Goes.plain rfl ?_
      have h0 : ρ (.tmp 77) = .pointer (some ⟨g, 0, none⟩) := hKn.1.get 6 77 rfl rfl
      refine Draw.Runs.value (w' := W) (v := .pointer (some ⟨g, 5, none⟩)) ?_ ⟨hJ, Below.refl _ _, rfl⟩
      simp only [execOp]; go_simp
    · refine Draw.Goes.plain rfl ?_
      have h0 : ρ (.tmp 78) = .pointer (some ⟨g, 5, none⟩) := hKn.1.get 7 78 rfl rfl
      have c : W.cell? ⟨g, 5, none⟩ = some (.int .u64 l.own) := Blk.cell (W := W) hJ.a _ rfl
      refine Draw.Runs.value (w' := W) (v := .int .u64 l.own) ?_ ⟨hJ, Below.refl _ _, rfl⟩
      simp only [execOp]; go_simp
    · refine Draw.Goes.plain rfl ?_
      have h0 : ρ (.tmp 74) = .agg (kc l.epoch l.count l.owned l.met) := hKn.1.get 3 74 rfl rfl
      have h1 : ρ (.tmp 75) = .agg (pc k vi vp) := hKn.1.get 4 75 rfl rfl
      have h2 : ρ (.tmp 79) = .int .u64 l.own := hKn.1.get 8 79 rfl rfl
      refine Draw.Runs.enter (f := 74) (args := #[.agg (kc l.epoch l.count l.owned l.met), .agg (pc k vi vp), .int .u64 l.own]) ?_ ((HTO.out W HGO.out.1).mono fun e W' ⟨he, hb⟩ => ⟨_, he, hJ.call hb, hb, rfl⟩)
      simp only [execOp]; go_simp
    · refine Draw.Goes.plain rfl ?_
      refine Draw.Runs.value (w' := W.alloc (.cells (kc 0 0 0 false) KT)) (v := .pointer (some ⟨W.heap.size, 0, none⟩)) ?_ ⟨hJ.call (bel_new _ _), bel_new _ _, W.heap.size, rfl, heap_alloc_new W _, hJ.b.lt⟩
      simp only [execOp, kc]; go_simp
  · intro u W hJ hf
    obtain ⟨gg7, r7, hb7⟩ : PtrT KT (kc 0 0 0 false) (w.heap.size + 1) W (u 7) := hf 10 _ 7 (by decide) rfl rfl
    have r80 : u 80 = .agg (kc (l.told k).epoch (l.told k).count (l.told k).owned (l.told k).met) := hf 9 _ 80 (by decide) rfl rfl
    simp only [List.foldl_cons, List.foldl_nil, List.setIfInBounds_toArray, List.set_cons_succ, List.set_cons_zero, r7, r80]
    have hUJ := hJ
    clear hJ
    refine Draw.wpAny_one (i := 11) (by kernel_rfl) rfl rfl ?_
    refine wp_store_mid KT (.tmp 7) (.tmp 80) rfl gg7 0 (kc (l.told k).epoch (l.told k).count (l.told k).owned (l.told k).met) rfl rfl (therek hb7.1 _ _ _ _) (kc_info _ _ _ _) (kc_all _ _ _ _) ?_
    refine Draw.wpAny_end (by kernel_rfl) ?_
    have hU5 : Un w g { l with urged := X } k vi vp (W.setCells gg7 0 (kc (l.told k).epoch (l.told k).count (l.told k).owned (l.told k).met).toList) := ⟨far4 hUJ.a (by have := hb7.2; omega) _ _ _ _, far4 hUJ.b (by have := hb7.2; omega) _ _ _ _, hUJ.kp.trans (Kp.of_below (bel4 (Below.refl _ _) (by have := hb7.2; omega) _ _ _ _))⟩
    have hb5 : Blk (W.setCells gg7 0 (kc (l.told k).epoch (l.told k).count (l.told k).owned (l.told k).met).toList) gg7 (kc (l.told k).epoch (l.told k).count (l.told k).owned (l.told k).met) KT := kset4 hb7.1 _ _ _ _
    generalize W.setCells gg7 0 (kc (l.told k).epoch (l.told k).count (l.told k).owned (l.told k).met).toList = w5 at *
    have hne7 : gg7 ≠ g := by have := hb7.2; omega
    obtain ⟨S, hS⟩ : ∃ S, S = sameK (l.told k).epoch (l.told k).count (l.told k).owned (l.told k).met l.epoch l.count l.owned l.met := ⟨_, rfl⟩
    have HS := Lib.hid hS
    clear hU4 hf hUJ hb7 hS
    go_upto_region 10 with fail
    refine Draw.wp_region_frame (fun W => Un w g { l with urged := X } k vi vp W ∧ Blk W gg7 (kc (l.told k).epoch (l.told k).count (l.told k).owned (l.told k).met) KT) (fun W W' => Below W.heap.size W W') (fun i W vv => match i with
        | 0 => vv = .agg (kc (l.told k).epoch (l.told k).count (l.told k).owned (l.told k).met)
        | 1 => vv = .pointer (some ⟨g, 0, none⟩)
        | 2 => vv = .pointer (some ⟨g, 0, none⟩)
        | 3 => vv = .pointer (some ⟨g, 0, none⟩)
        | 4 => vv = .agg (kc l.epoch l.count l.owned l.met)
        | _ => vv = .bool (!S)) (by kernel_rfl) (by kernel_rfl) (by decide) rfl ?_ ⟨⟨hU5.a, hU5.b, hU5.kp.drew⟩, hb5⟩ ?_ [81, 82, 83, 84, 85, 86] (by rfl) ?_
    · intro i W W' vv he hf
      exact hf
    · refine ⟨?_, ?_, ?_, ?_, ?_, ?_, trivial⟩
      all_goals intro ρ W hJ hc hf hKn
      · refine Draw.Goes.plain rfl ?_
        have h0 : ρ (.tmp 7) = .pointer (some ⟨gg7, 0, none⟩) := hKn.1.2 7 rfl
        refine Draw.Runs.value (w' := W) (v := .agg (kc (l.told k).epoch (l.told k).count (l.told k).owned (l.told k).met)) ?_ ⟨hJ, Below.refl _ _, rfl⟩
        exact Draw.load_row KT _ rfl _ h0 KT _ (0, 0) _ hJ.2 Tryd.underlying72 rfl (kc_info _ _ _ _)
      · refine Draw.Goes.plain rfl ?_
        exact Draw.Runs.value (w' := W) (v := ρ (.tmp 0)) rfl ⟨hJ, Below.refl _ _, hKn.1.2 0 rfl⟩
      · refine Draw.Goes.plain rfl ?_
        have h0 : ρ (.tmp 82) = .pointer (some ⟨g, 0, none⟩) := hKn.1.get 1 82 rfl rfl
        refine Draw.Runs.value (w' := W) (v := .pointer (some ⟨g, 0, none⟩)) ?_ ⟨hJ, Below.refl _ _, rfl⟩
        simp only [execOp]; go_simp
      · refine Draw.Goes.plain rfl ?_
        have h0 : ρ (.tmp 83) = .pointer (some ⟨g, 0, none⟩) := hKn.1.get 2 83 rfl rfl
        refine Draw.Runs.value (w' := W) (v := .pointer (some ⟨g, 0, none⟩)) ?_ ⟨hJ, Below.refl _ _, rfl⟩
        simp only [execOp]; go_simp
      · refine Draw.Goes.plain rfl ?_
        have h0 : ρ (.tmp 84) = .pointer (some ⟨g, 0, none⟩) := hKn.1.get 3 84 rfl rfl
        exact Draw.Runs.value (w' := W) (v := .agg (kc l.epoch l.count l.owned l.met)) (exec_load_kn _ g { l with urged := X } hJ.1.a rfl h0) ⟨hJ, Below.refl _ _, rfl⟩
      · refine Draw.Goes.plain rfl ?_
        have h0 : ρ (.tmp 81) = .agg (kc (l.told k).epoch (l.told k).count (l.told k).owned (l.told k).met) := hKn.1.get 0 81 rfl rfl
        have h1 : ρ (.tmp 85) = .agg (kc l.epoch l.count l.owned l.met) := hKn.1.get 4 85 rfl rfl
        exact Draw.Runs.value (w' := W) (v := .bool (!S)) (by rw [HS.out]; exact exec_neq _ _ _ _ _ _ _ _ _ _ rfl h0 h1) ⟨hJ, Below.refl _ _, rfl⟩
    · intro u2 W hJ hf
      have r86 : u2 86 = .bool (!S) := hf 5 _ 86 rfl rfl
      simp only [List.foldl_cons, List.foldl_nil, List.setIfInBounds_toArray, List.set_cons_succ, List.set_cons_zero, r86]
      have hU6 := hJ.1
      have hb6 := hJ.2
      clear hJ hf hU5 hb5
      cases S with
      | true =>
        obtain ⟨s1, s2, s3, s4⟩ := sameK_iff HS.out.symm
        have HL := Lib.hid (show Blk W g (lc (l.told k)) LT by
          have h := hU6.a
          rw [HX.out] at h
          have e : lc { l with urged := (l.told k).urged } = lc (l.told k) := by
            show #[_, _, _, _, _, _, _, _, _, _] = #[_, _, _, _, _, _, _, _, _, _]
            rw [s1, s2, s3, s4]
            rfl
          rw [← e]; exact h)
        have HKP := Lib.hid hU6.kp
        clear s1 s2 s3 s4 hU6 hb6
        go_wp2
        go_ret
        exact ⟨rfl, HL.out, HKP.out⟩
      | false =>
        have ha6 := hU6.a
        have HL := Lib.hid (show Blk (W.setCells g 0 (kc (l.told k).epoch (l.told k).count (l.told k).owned (l.told k).met).toList) g (lc (l.told k)) LT by
          have h := set4 ha6 (l.told k).epoch (l.told k).count (l.told k).owned (l.told k).met
          rw [HX.out] at h
          exact h)
        have HKP := Lib.hid (kp4 hU6.kp (l.told k).epoch (l.told k).count (l.told k).owned (l.told k).met)
        clear hU6
        go_wp2_with (first | (refine load_kc (.tmp 7) gg7 _ _ _ _ hb6 rfl rfl rfl ?_) | (refine wpList_store_mid rfl KT (.tmp 90) (.tmp 88) rfl g 0 (kc (l.told k).epoch (l.told k).count (l.told k).owned (l.told k).met) rfl rfl (there4 ha6 _ _ _ _) (kc_info _ _ _ _) (kc_all _ _ _ _) ?_))
        go_ret
        exact ⟨rfl, HL.out, HKP.out⟩
end Go.Proofs.YtdgbililgkhjfaaDoor.Lk
