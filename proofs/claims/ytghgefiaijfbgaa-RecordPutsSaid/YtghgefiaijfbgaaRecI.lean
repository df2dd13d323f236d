/- What the document's 'Take' answers: walked. Conditions: the size. -/
import Derived.Test.YtghgefiaijfbgaaRecH
namespace Go.Proofs.Ytghgefiaijfbgaa.Rec
open Go.RowKit Go.Proofs.Ytghgefiaijfbgaa.Crc Go.Proofs.Ytghgefiaijfbgaa.Codec
set_option linter.unusedVariables false
theorem rrc_info (r : R) : (Try.prog.info? 33).map (·.size) = some (rc r).size := by kernel_rfl
/-- A whole record is stored. -/
theorem store_rrec {ops : Array Oper} {rest : List Oper} {op : Oper} {a : Act} {w : World} {Q : Exit → Act → World → Prop} (x y : Operand) (g : Nat) (r0 r : R) (hb : Blk w g (rc r0) 33) (hgd : op.guard = none) (ho : op.op = .store 33 x y)
    (hd : op.dst = none) (hx : a.eval x = .pointer (some ⟨g, 0, none⟩)) (hy : a.eval y = .agg (rc r)) (h : wpList Try.prog ops Q rest a (w.setRow g (rc r))) : wpList Try.prog ops Q (op :: rest) a w :=
  wpList_store_rowTo hgd 33 x y ho hd g (rc r) hx hy 33 (rc r0) hb (rrc_info r) rfl (rc_all r) h
/-- A whole record is read. -/
theorem load_rrec {ops : Array Oper} {rest : List Oper} {op : Oper} {a : Act} {w : World} {Q : Exit → Act → World → Prop} (x : Operand) (g : Nat) (r : R) (hb : Blk w g (rc r) 33) (hgd : op.guard = none) (ho : op.op = .load 33 x)
    (hx : a.eval x = .pointer (some ⟨g, 0, none⟩)) (h : wpList Try.prog ops Q rest (a.put op.dst (.agg (rc r))) w) : wpList Try.prog ops Q (op :: rest) a w :=
  wpList_load_row hgd 33 x ho g hx 33 (rc r) (0, 0) _ hb Try.underlying33 rfl (rrc_info r) h
/-- The same under a guard that says yes. -/
theorem load_rrecg {ops : Array Oper} {rest : List Oper} {op : Oper} {a : Act} {w : World} {Q : Exit → Act → World → Prop} (x : Operand) (g : Nat) (r : R) (hb : Blk w g (rc r) 33) (hgd : Region.wanted op (yielded ops a.tmps) = true) (ho : op.op = .load 33 x)
    (hx : a.eval x = .pointer (some ⟨g, 0, none⟩)) (h : wpList Try.prog ops Q rest (a.put op.dst (.agg (rc r))) w) : wpList Try.prog ops Q (op :: rest) a w := by
  unfold wpList
  rw [if_pos hgd]
  exact .inl (wp_load_row 33 x ho g hx 33 (rc r) (0, 0) _ hb Try.underlying33 rfl (rrc_info r) h)
theorem end_rtake {W : World} {g : Nat} {r : R} {e : Int} (tmps : Array Value) (h2 : tmps.getD 2 undef = .pointer (some ⟨g, 0, none⟩)) (h3 : tmps.getD 3 undef = .int .i64 e) (hb : Blk W g (rc r) 33) :
    (results Try.f11 tmps).run Try.prog W = .ok (.tuple #[.agg (rc r), .int .i64 e]) W := by
  rw [results_cell_tmp (p := 2) (u := 3) (ty := 33) rfl, h2, h3]
  show Result.andThen (.ok (⟨g, 0, none⟩ : Addr) W) _ = _
  rw [Result.andThen_ok, run_loadVar_row W g _ 33 (rc r) (0, 0) _ hb Try.underlying33 rfl (by kernel_rfl), Result.andThen_ok]
theorem may_rOf {k : Nat} (m : List UInt8) (hk : 1 ≤ k ∧ k ≤ 3) : MayB (rOf k m) = (rOf k m).right := by
  have hk' : k = 1 ∨ k = 2 ∨ k = 3 := by omega
  rw [Bool.eq_iff_iff]
  unfold MayB
  rw [decide_eq_true_eq]
  constructor
  · exact fun h => h.1
  · intro h
    refine ⟨h, ?_⟩
    rcases hk' with rfl | rfl | rfl
    · exact .inl ⟨rfl, rfl, rfl, rfl, rfl, rfl, rfl⟩
    · exact .inr (.inl ⟨rfl, rfl, rfl, rfl, rfl, rfl⟩)
    · exact .inr (.inr ⟨rfl, rfl, rfl, rfl, rfl⟩)
set_option maxRecDepth 100000 in
theorem rtake_nil (w : World) :
    Calls Try.prog 11 #[.string (bs [])] w fun r w' => r = .returned (.tuple #[.agg (rc R.zero), .int .i64 10]) ∧ Below w.heap.size w w' := by
  rw [show bs [] = ⟨#[]⟩ from rfl]
  go_enter Try.func11, Try.ntmps11
  go_wp2
  exact bodyPost_ret (v := .tuple #[.agg (rc R.zero), .int .i64 10]) (by simp [results, Try.results11, go_sem, rc, R.zero]) rfl ⟨rfl, (Below.refl _ _).alloc (Nat.le_refl _) _⟩
theorem ne_facts {s : ByteArray} (h0 : 0 < s.size) : s.toList ≠ [] ∧ (!s.toList.isEmpty) = true ∧ s.toList.isEmpty = false := by
  have h1 : s.toList ≠ [] := by
    intro e
    rw [ByteArray.toList_eq] at e
    have := congrArg List.length e
    rw [List.length_nil, Array.length_toList] at this
    have h : s.size = s.data.size := rfl
    omega
  refine ⟨h1, ?_, ?_⟩
  · cases h : s.toList with | nil => exact absurd h h1 | cons x y => rfl
  · cases h : s.toList with | nil => exact absurd h h1 | cons x y => rfl
set_option maxRecDepth 100000 in
theorem rtake_form (s : ByteArray) (k : Nat) (w : World) (hs : s.size ≤ maxLen) (h0 : 0 < s.size) (hk : (s[0]'h0).toNat = k) (hk3 : k < 256) (hb : k < 1 ∨ 3 < k) :
    Calls Try.prog 11 #[.string s] w fun r w' => r = .returned (.tuple #[.agg (rc R.zero), .int .i64 4]) ∧ Below w.heap.size w w' := by
  unfold maxLen at hs
  obtain ⟨n1, n2, n3⟩ := ne_facts h0
  have i0 : (0 : Int) < (s.size : Int) := by omega
  have hres : Blk (w.alloc (.cells (rc R.zero) 33)) w.heap.size (rc R.zero) 33 := heap_alloc_new w _
  rcases hb with hb | hb
  · go_enter Try.func11, Try.ntmps11
    go_wp2_with (refine store_rrec (.tmp 2) (.tmp 18) w.heap.size R.zero R.zero hres rfl rfl rfl rfl rfl ?_)
    exact bodyPost_ret (v := .tuple #[.agg (rc R.zero), .int .i64 4]) (end_rtake _ rfl rfl (setRow_heap _ _ _ _ _ _ hres)) rfl ⟨rfl, below_setRow ((Below.refl _ w).alloc (Nat.le_refl _) _) (Nat.le_refl _) _⟩
  · go_enter Try.func11, Try.ntmps11
    go_wp2_with (refine store_rrec (.tmp 2) (.tmp 18) w.heap.size R.zero R.zero hres rfl rfl rfl rfl rfl ?_)
    exact bodyPost_ret (v := .tuple #[.agg (rc R.zero), .int .i64 4]) (end_rtake _ rfl rfl (setRow_heap _ _ _ _ _ _ hres)) rfl ⟨rfl, below_setRow ((Below.refl _ w).alloc (Nat.le_refl _) _) (Nat.le_refl _) _⟩
set_option maxRecDepth 100000 in
theorem rtake_short (s : ByteArray) (k : Nat) (w : World) (hs : s.size ≤ maxLen) (h0 : 0 < s.size) (hk : (s[0]'h0).toNat = k) (hb : 1 ≤ k ∧ k ≤ 3) (hn : s.size < need k + 1) :
    Calls Try.prog 11 #[.string s] w fun r w' => r = .returned (.tuple #[.agg (rc R.zero), .int .i64 10]) ∧ Below w.heap.size w w' := by
  unfold maxLen at hs
  obtain ⟨n1, n2, n3⟩ := ne_facts h0
  have i0 : (0 : Int) < (s.size : Int) := by omega
  have hres : Blk (w.alloc (.cells (rc R.zero) 33)) w.heap.size (rc R.zero) 33 := heap_alloc_new w _
  have hB : Below w.heap.size w (w.alloc (.cells (rc R.zero) 33)) := (Below.refl _ w).alloc (Nat.le_refl _) _
  obtain ⟨n, hnd⟩ : ∃ n, n = need k + 1 := ⟨_, rfl⟩
  have HLo := Lib.hid (fun W => Long_any k W hb)
  rw [← hnd] at HLo
  have hn' : n ≤ 26 := by rw [hnd]; unfold need; (repeat' split) <;> omega
  rw [← hnd] at hn
  have k1 := hb.1
  have k3 := hb.2
  clear hb hnd
  go_enter Try.func11, Try.ntmps11
  go_wp2_with fail
  refine (HLo.out _).mono ?_
  rintro e w1 ⟨rfl, hb1⟩
  have hres1 : Blk w1 w.heap.size (rc R.zero) 33 := (hb1.block _ (by simp)).trans hres
  have hB1 : Below w.heap.size w w1 := hB.trans (hb1.mono (by simp))
  have hz1 : w.heap.size < w1.heap.size := hres1.lt
  clear hres hB hb1
  go_wp2_with (refine store_rrec (.tmp 2) (.tmp 24) w.heap.size R.zero R.zero hres1 rfl rfl rfl rfl rfl ?_)
  exact bodyPost_ret (v := .tuple #[.agg (rc R.zero), .int .i64 10]) (end_rtake _ rfl rfl (setRow_heap _ _ _ _ _ _ hres1)) rfl ⟨rfl, below_setRow hB1 (Nat.le_refl _) _⟩
set_option maxRecDepth 100000 in
theorem rtake_long (s : ByteArray) (k : Nat) (w : World) (hs : s.size ≤ maxLen) (h0 : 0 < s.size) (hk : (s[0]'h0).toNat = k) (hb : 1 ≤ k ∧ k ≤ 3) (hn : need k + 1 < s.size) :
    Calls Try.prog 11 #[.string s] w fun r w' => r = .returned (.tuple #[.agg (rc R.zero), .int .i64 4]) ∧ Below w.heap.size w w' := by
  unfold maxLen at hs
  obtain ⟨n1, n2, n3⟩ := ne_facts h0
  have i0 : (0 : Int) < (s.size : Int) := by omega
  have hres : Blk (w.alloc (.cells (rc R.zero) 33)) w.heap.size (rc R.zero) 33 := heap_alloc_new w _
  have hB : Below w.heap.size w (w.alloc (.cells (rc R.zero) 33)) := (Below.refl _ w).alloc (Nat.le_refl _) _
  obtain ⟨n, hnd⟩ : ∃ n, n = need k + 1 := ⟨_, rfl⟩
  have HLo := Lib.hid (fun W => Long_any k W hb)
  rw [← hnd] at HLo
  have hn' : n ≤ 26 := by rw [hnd]; unfold need; (repeat' split) <;> omega
  rw [← hnd] at hn
  have k1 := hb.1
  have k3 := hb.2
  have hn2 : ¬ s.size < n := by omega
  clear hb hnd
  go_enter Try.func11, Try.ntmps11
  go_wp2_with fail
  refine (HLo.out _).mono ?_
  rintro e w1 ⟨rfl, hb1⟩
  have hres1 : Blk w1 w.heap.size (rc R.zero) 33 := (hb1.block _ (by simp)).trans hres
  have hB1 : Below w.heap.size w w1 := hB.trans (hb1.mono (by simp))
  have hz1 : w.heap.size < w1.heap.size := hres1.lt
  clear hres hB hb1
  go_wp2_with fail
  refine (HLo.out _).mono ?_
  rintro e w2 ⟨rfl, hb2⟩
  have hres2 : Blk w2 w.heap.size (rc R.zero) 33 := (hb2.block _ hz1).trans hres1
  have hB2 : Below w.heap.size w w2 := hB1.trans (hb2.mono (Nat.le_of_lt hz1))
  have hz2 : w.heap.size < w2.heap.size := hres2.lt
  clear hres1 hB1 hb2 hz1
  go_wp2_with (refine store_rrec (.tmp 2) (.tmp 30) w.heap.size R.zero R.zero hres2 rfl rfl rfl rfl rfl ?_)
  exact bodyPost_ret (v := .tuple #[.agg (rc R.zero), .int .i64 4]) (end_rtake _ rfl rfl (setRow_heap _ _ _ _ _ _ hres2)) rfl ⟨rfl, below_setRow hB2 (Nat.le_refl _) _⟩
set_option maxRecDepth 100000 in
theorem rtake_1right (s : ByteArray) (frame own : Nat) (w : World) (hs : s.size = 10) (hk : (s[0]'(by omega)).toNat = 1) (hframe : V ((s.data.toList.drop 1).take 8) = frame) (hown : (s[9]'(by omega)).toNat = own) (hr : MayB ⟨1, frame, own, 0, 0, 0, 0, 0, 0⟩ = true) (hwf : R.wf ⟨1, frame, own, 0, 0, 0, 0, 0, 0⟩) :
    Calls Try.prog 11 #[.string s] w fun r w' => r = .returned (.tuple #[.agg (rc ⟨1, frame, own, 0, 0, 0, 0, 0, 0⟩), .int .i64 0]) ∧ Below w.heap.size w w' := by
  have h0 : 0 < s.size := by omega
  obtain ⟨n1, n2, n3⟩ := ne_facts h0
  have hres : Blk (w.alloc (.cells (rc R.zero) 33)) w.heap.size (rc R.zero) 33 := heap_alloc_new w _
  have hB : Below w.heap.size w (w.alloc (.cells (rc R.zero) 33)) := (Below.refl _ w).alloc (Nat.le_refl _) _
  have HLo := Lib.hid (Long1)
  have Nframe := fun W => number_any s 1 W (by rw [hs]; unfold maxLen; decide) (by omega)
  rw [hframe] at Nframe
  have Hframe := Lib.hid Nframe
  have lframe : frame < 18446744073709551616 := by rw [← hframe]; exact V_take _ _ 8
  have lown : own < 256 := by rw [← hown]; exact UInt8.toNat_lt _
  have hM := fun W => may_any ⟨1, frame, own, 0, 0, 0, 0, 0, 0⟩ W hwf
  rw [hr] at hM
  have HM := Lib.hid hM
  clear hM hr hwf Nframe hframe
  have j0 : 0 < s.size := by omega
  have J0 : (0 : Int) < (s.size : Int) := by omega
  have j9 : 9 < s.size := by omega
  have J9 : (9 : Int) < (s.size : Int) := by omega
  go_enter Try.func11, Try.ntmps11
  go_wp2_with fail
  refine (HLo.out _).mono ?_
  rintro e w1 ⟨rfl, hb1⟩
  have hres1 : Blk w1 w.heap.size (rc R.zero) 33 := (hb1.block _ (by simp)).trans hres
  have hB1 : Below w.heap.size w w1 := hB.trans (hb1.mono (by simp))
  have hz1 : w.heap.size < w1.heap.size := hres1.lt
  clear hres hB hb1
  go_wp2_with fail
  refine (HLo.out _).mono ?_
  rintro e w2 ⟨rfl, hb2⟩
  have hres2 : Blk w2 w.heap.size (rc R.zero) 33 := (hb2.block _ hz1).trans hres1
  have hB2 : Below w.heap.size w w2 := hB1.trans (hb2.mono (Nat.le_of_lt hz1))
  have hz2 : w.heap.size < w2.heap.size := hres2.lt
  clear hres1 hB1 hb2 hz1
  go_wp2_with fail
  refine (Hframe.out _).mono ?_
  rintro e w' ⟨rfl, rfl⟩
  go_wp2_with fail
  refine (HM.out _).mono ?_
  rintro e w3 ⟨rfl, hb3⟩
  have hres3 : Blk w3 w.heap.size (rc R.zero) 33 := (hb3.block _ (by simp; omega)).trans (hres2.alloc _)
  have hr3 : Blk w3 w2.heap.size (rc ⟨1, frame, own, 0, 0, 0, 0, 0, 0⟩) 33 := (hb3.block _ (by simp)).trans (heap_alloc_new w2 _)
  have hB3 : Below w.heap.size w w3 := (hB2.alloc (Nat.le_of_lt hz2) _).trans (hb3.mono (by simp; omega))
  clear hres2 hB2 hb3 hz2
  go_wp2_with (first | (refine store_rrec (.tmp 2) (.tmp 69) w.heap.size R.zero ⟨1, frame, own, 0, 0, 0, 0, 0, 0⟩ hres3 rfl rfl rfl rfl rfl ?_) | (refine load_rrec (.tmp 5) w2.heap.size ⟨1, frame, own, 0, 0, 0, 0, 0, 0⟩ hr3 rfl rfl rfl ?_))
  exact bodyPost_ret (v := .tuple #[.agg (rc ⟨1, frame, own, 0, 0, 0, 0, 0, 0⟩), .int .i64 0]) (end_rtake _ rfl rfl (setRow_heap _ _ _ _ _ _ hres3)) rfl ⟨rfl, below_setRow hB3 (Nat.le_refl _) _⟩
set_option maxRecDepth 100000 in
theorem rtake_2right (s : ByteArray) (frame p0 p1 : Nat) (w : World) (hs : s.size = 11) (hk : (s[0]'(by omega)).toNat = 2) (hframe : V ((s.data.toList.drop 1).take 8) = frame) (hp0 : (s[9]'(by omega)).toNat = p0) (hp1 : (s[10]'(by omega)).toNat = p1) (hr : MayB ⟨2, frame, 0, p0, p1, 0, 0, 0, 0⟩ = true) (hwf : R.wf ⟨2, frame, 0, p0, p1, 0, 0, 0, 0⟩) :
    Calls Try.prog 11 #[.string s] w fun r w' => r = .returned (.tuple #[.agg (rc ⟨2, frame, 0, p0, p1, 0, 0, 0, 0⟩), .int .i64 0]) ∧ Below w.heap.size w w' := by
  have h0 : 0 < s.size := by omega
  obtain ⟨n1, n2, n3⟩ := ne_facts h0
  have hres : Blk (w.alloc (.cells (rc R.zero) 33)) w.heap.size (rc R.zero) 33 := heap_alloc_new w _
  have hB : Below w.heap.size w (w.alloc (.cells (rc R.zero) 33)) := (Below.refl _ w).alloc (Nat.le_refl _) _
  have HLo := Lib.hid (Long2)
  have Nframe := fun W => number_any s 1 W (by rw [hs]; unfold maxLen; decide) (by omega)
  rw [hframe] at Nframe
  have Hframe := Lib.hid Nframe
  have lframe : frame < 18446744073709551616 := by rw [← hframe]; exact V_take _ _ 8
  have lp0 : p0 < 256 := by rw [← hp0]; exact UInt8.toNat_lt _
  have lp1 : p1 < 256 := by rw [← hp1]; exact UInt8.toNat_lt _
  have hM := fun W => may_any ⟨2, frame, 0, p0, p1, 0, 0, 0, 0⟩ W hwf
  rw [hr] at hM
  have HM := Lib.hid hM
  clear hM hr hwf Nframe hframe
  have j0 : 0 < s.size := by omega
  have J0 : (0 : Int) < (s.size : Int) := by omega
  have j9 : 9 < s.size := by omega
  have J9 : (9 : Int) < (s.size : Int) := by omega
  have j10 : 10 < s.size := by omega
  have J10 : (10 : Int) < (s.size : Int) := by omega
  go_enter Try.func11, Try.ntmps11
  go_wp2_with fail
  refine (HLo.out _).mono ?_
  rintro e w1 ⟨rfl, hb1⟩
  have hres1 : Blk w1 w.heap.size (rc R.zero) 33 := (hb1.block _ (by simp)).trans hres
  have hB1 : Below w.heap.size w w1 := hB.trans (hb1.mono (by simp))
  have hz1 : w.heap.size < w1.heap.size := hres1.lt
  clear hres hB hb1
  go_wp2_with fail
  refine (HLo.out _).mono ?_
  rintro e w2 ⟨rfl, hb2⟩
  have hres2 : Blk w2 w.heap.size (rc R.zero) 33 := (hb2.block _ hz1).trans hres1
  have hB2 : Below w.heap.size w w2 := hB1.trans (hb2.mono (Nat.le_of_lt hz1))
  have hz2 : w.heap.size < w2.heap.size := hres2.lt
  clear hres1 hB1 hb2 hz1
  go_wp2_with fail
  refine (Hframe.out _).mono ?_
  rintro e w' ⟨rfl, rfl⟩
  go_wp2_with fail
  go_region
  all_goals go_wp2_with fail
  all_goals
    refine (HM.out _).mono ?_
    rintro e w3 ⟨rfl, hb3⟩
    have hres3 : Blk w3 w.heap.size (rc R.zero) 33 := (hb3.block _ (by simp; omega)).trans (hres2.alloc (.cells (rc ⟨2, frame, 0, p0, p1, 0, 0, 0, 0⟩) 33))
    have hr3 : Blk w3 w2.heap.size (rc ⟨2, frame, 0, p0, p1, 0, 0, 0, 0⟩) 33 := (hb3.block _ (by simp)).trans (heap_alloc_new w2 _)
    have hB3 : Below w.heap.size w w3 := (hB2.alloc (Nat.le_of_lt hz2) (.cells (rc ⟨2, frame, 0, p0, p1, 0, 0, 0, 0⟩) 33)).drew.trans (hb3.mono (by simp; omega))
    clear hres2 hB2 hb3 hz2
    go_wp2_with (first | (refine store_rrec (.tmp 2) (.tmp 69) w.heap.size R.zero ⟨2, frame, 0, p0, p1, 0, 0, 0, 0⟩ hres3 rfl rfl rfl rfl rfl ?_) | (refine load_rrec (.tmp 5) w2.heap.size ⟨2, frame, 0, p0, p1, 0, 0, 0, 0⟩ hr3 rfl rfl rfl ?_))
    exact bodyPost_ret (v := .tuple #[.agg (rc ⟨2, frame, 0, p0, p1, 0, 0, 0, 0⟩), .int .i64 0]) (end_rtake _ rfl rfl (setRow_heap _ _ _ _ _ _ hres3)) rfl ⟨rfl, below_setRow hB3 (Nat.le_refl _) _⟩
set_option maxRecDepth 100000 in
theorem rtake_3right (s : ByteArray) (seg first epoch player : Nat) (w : World) (hs : s.size = 26) (hk : (s[0]'(by omega)).toNat = 3) (hseg : V ((s.data.toList.drop 1).take 8) = seg) (hfirst : V ((s.data.toList.drop 9).take 8) = first) (hepoch : V ((s.data.toList.drop 17).take 8) = epoch) (hplayer : (s[25]'(by omega)).toNat = player) (hr : MayB ⟨3, 0, 0, 0, 0, seg, first, epoch, player⟩ = true) (hwf : R.wf ⟨3, 0, 0, 0, 0, seg, first, epoch, player⟩) :
    Calls Try.prog 11 #[.string s] w fun r w' => r = .returned (.tuple #[.agg (rc ⟨3, 0, 0, 0, 0, seg, first, epoch, player⟩), .int .i64 0]) ∧ Below w.heap.size w w' := by
  have h0 : 0 < s.size := by omega
  obtain ⟨n1, n2, n3⟩ := ne_facts h0
  have hres : Blk (w.alloc (.cells (rc R.zero) 33)) w.heap.size (rc R.zero) 33 := heap_alloc_new w _
  have hB : Below w.heap.size w (w.alloc (.cells (rc R.zero) 33)) := (Below.refl _ w).alloc (Nat.le_refl _) _
  have HLo := Lib.hid (Long3)
  have Nseg := fun W => number_any s 1 W (by rw [hs]; unfold maxLen; decide) (by omega)
  rw [hseg] at Nseg
  have Hseg := Lib.hid Nseg
  have lseg : seg < 18446744073709551616 := by rw [← hseg]; exact V_take _ _ 8
  have Nfirst := fun W => number_any s 9 W (by rw [hs]; unfold maxLen; decide) (by omega)
  rw [hfirst] at Nfirst
  have Hfirst := Lib.hid Nfirst
  have lfirst : first < 18446744073709551616 := by rw [← hfirst]; exact V_take _ _ 8
  have Nepoch := fun W => number_any s 17 W (by rw [hs]; unfold maxLen; decide) (by omega)
  rw [hepoch] at Nepoch
  have Hepoch := Lib.hid Nepoch
  have lepoch : epoch < 18446744073709551616 := by rw [← hepoch]; exact V_take _ _ 8
  have lplayer : player < 256 := by rw [← hplayer]; exact UInt8.toNat_lt _
  have hM := fun W => may_any ⟨3, 0, 0, 0, 0, seg, first, epoch, player⟩ W hwf
  rw [hr] at hM
  have HM := Lib.hid hM
  clear hM hr hwf Nseg hseg Nfirst hfirst Nepoch hepoch
  have j0 : 0 < s.size := by omega
  have J0 : (0 : Int) < (s.size : Int) := by omega
  have j25 : 25 < s.size := by omega
  have J25 : (25 : Int) < (s.size : Int) := by omega
  go_enter Try.func11, Try.ntmps11
  go_wp2_with fail
  refine (HLo.out _).mono ?_
  rintro e w1 ⟨rfl, hb1⟩
  have hres1 : Blk w1 w.heap.size (rc R.zero) 33 := (hb1.block _ (by simp)).trans hres
  have hB1 : Below w.heap.size w w1 := hB.trans (hb1.mono (by simp))
  have hz1 : w.heap.size < w1.heap.size := hres1.lt
  clear hres hB hb1
  go_wp2_with fail
  refine (HLo.out _).mono ?_
  rintro e w2 ⟨rfl, hb2⟩
  have hres2 : Blk w2 w.heap.size (rc R.zero) 33 := (hb2.block _ hz1).trans hres1
  have hB2 : Below w.heap.size w w2 := hB1.trans (hb2.mono (Nat.le_of_lt hz1))
  have hz2 : w.heap.size < w2.heap.size := hres2.lt
  clear hres1 hB1 hb2 hz1
  go_wp2_with fail
  refine (Hseg.out _).mono ?_
  rintro e w' ⟨rfl, rfl⟩
  go_wp2_with fail
  refine (Hfirst.out _).mono ?_
  rintro e w' ⟨rfl, rfl⟩
  go_wp2_with fail
  refine (Hepoch.out _).mono ?_
  rintro e w' ⟨rfl, rfl⟩
  go_wp2_with fail
  refine (HM.out _).mono ?_
  rintro e w3 ⟨rfl, hb3⟩
  have hres3 : Blk w3 w.heap.size (rc R.zero) 33 := (hb3.block _ (by simp; omega)).trans (hres2.alloc _)
  have hr3 : Blk w3 w2.heap.size (rc ⟨3, 0, 0, 0, 0, seg, first, epoch, player⟩) 33 := (hb3.block _ (by simp)).trans (heap_alloc_new w2 _)
  have hB3 : Below w.heap.size w w3 := (hB2.alloc (Nat.le_of_lt hz2) _).trans (hb3.mono (by simp; omega))
  clear hres2 hB2 hb3 hz2
  go_wp2_with (first | (refine store_rrec (.tmp 2) (.tmp 69) w.heap.size R.zero ⟨3, 0, 0, 0, 0, seg, first, epoch, player⟩ hres3 rfl rfl rfl rfl rfl ?_) | (refine load_rrec (.tmp 5) w2.heap.size ⟨3, 0, 0, 0, 0, seg, first, epoch, player⟩ hr3 rfl rfl rfl ?_))
  exact bodyPost_ret (v := .tuple #[.agg (rc ⟨3, 0, 0, 0, 0, seg, first, epoch, player⟩), .int .i64 0]) (end_rtake _ rfl rfl (setRow_heap _ _ _ _ _ _ hres3)) rfl ⟨rfl, below_setRow hB3 (Nat.le_refl _) _⟩
set_option maxRecDepth 100000 in
theorem rtake_1wrong (s : ByteArray) (frame own : Nat) (w : World) (hs : s.size = 10) (hk : (s[0]'(by omega)).toNat = 1) (hframe : V ((s.data.toList.drop 1).take 8) = frame) (hown : (s[9]'(by omega)).toNat = own) (hr : MayB ⟨1, frame, own, 0, 0, 0, 0, 0, 0⟩ = false) (hwf : R.wf ⟨1, frame, own, 0, 0, 0, 0, 0, 0⟩) :
    Calls Try.prog 11 #[.string s] w fun r w' => r = .returned (.tuple #[.agg (rc R.zero), .int .i64 4]) ∧ Below w.heap.size w w' := by
  have h0 : 0 < s.size := by omega
  obtain ⟨n1, n2, n3⟩ := ne_facts h0
  have hres : Blk (w.alloc (.cells (rc R.zero) 33)) w.heap.size (rc R.zero) 33 := heap_alloc_new w _
  have hB : Below w.heap.size w (w.alloc (.cells (rc R.zero) 33)) := (Below.refl _ w).alloc (Nat.le_refl _) _
  have HLo := Lib.hid (Long1)
  have Nframe := fun W => number_any s 1 W (by rw [hs]; unfold maxLen; decide) (by omega)
  rw [hframe] at Nframe
  have Hframe := Lib.hid Nframe
  have lframe : frame < 18446744073709551616 := by rw [← hframe]; exact V_take _ _ 8
  have lown : own < 256 := by rw [← hown]; exact UInt8.toNat_lt _
  have hM := fun W => may_any ⟨1, frame, own, 0, 0, 0, 0, 0, 0⟩ W hwf
  rw [hr] at hM
  have HM := Lib.hid hM
  clear hM hr hwf Nframe hframe
  have j0 : 0 < s.size := by omega
  have J0 : (0 : Int) < (s.size : Int) := by omega
  have j9 : 9 < s.size := by omega
  have J9 : (9 : Int) < (s.size : Int) := by omega
  go_enter Try.func11, Try.ntmps11
  go_wp2_with fail
  refine (HLo.out _).mono ?_
  rintro e w1 ⟨rfl, hb1⟩
  have hres1 : Blk w1 w.heap.size (rc R.zero) 33 := (hb1.block _ (by simp)).trans hres
  have hB1 : Below w.heap.size w w1 := hB.trans (hb1.mono (by simp))
  have hz1 : w.heap.size < w1.heap.size := hres1.lt
  clear hres hB hb1
  go_wp2_with fail
  refine (HLo.out _).mono ?_
  rintro e w2 ⟨rfl, hb2⟩
  have hres2 : Blk w2 w.heap.size (rc R.zero) 33 := (hb2.block _ hz1).trans hres1
  have hB2 : Below w.heap.size w w2 := hB1.trans (hb2.mono (Nat.le_of_lt hz1))
  have hz2 : w.heap.size < w2.heap.size := hres2.lt
  clear hres1 hB1 hb2 hz1
  go_wp2_with fail
  refine (Hframe.out _).mono ?_
  rintro e w' ⟨rfl, rfl⟩
  go_wp2_with fail
  refine (HM.out _).mono ?_
  rintro e w3 ⟨rfl, hb3⟩
  have hres3 : Blk w3 w.heap.size (rc R.zero) 33 := (hb3.block _ (by simp; omega)).trans (hres2.alloc _)
  have hr3 : Blk w3 w2.heap.size (rc ⟨1, frame, own, 0, 0, 0, 0, 0, 0⟩) 33 := (hb3.block _ (by simp)).trans (heap_alloc_new w2 _)
  have hB3 : Below w.heap.size w w3 := (hB2.alloc (Nat.le_of_lt hz2) _).trans (hb3.mono (by simp; omega))
  clear hres2 hB2 hb3 hz2
  go_wp2_with (refine store_rrec (.tmp 2) (.tmp 68) w.heap.size R.zero R.zero hres3 rfl rfl rfl rfl rfl ?_)
  exact bodyPost_ret (v := .tuple #[.agg (rc R.zero), .int .i64 4]) (end_rtake _ rfl rfl (setRow_heap _ _ _ _ _ _ hres3)) rfl ⟨rfl, below_setRow hB3 (Nat.le_refl _) _⟩
set_option maxRecDepth 100000 in
theorem rtake_2wrong (s : ByteArray) (frame p0 p1 : Nat) (w : World) (hs : s.size = 11) (hk : (s[0]'(by omega)).toNat = 2) (hframe : V ((s.data.toList.drop 1).take 8) = frame) (hp0 : (s[9]'(by omega)).toNat = p0) (hp1 : (s[10]'(by omega)).toNat = p1) (hr : MayB ⟨2, frame, 0, p0, p1, 0, 0, 0, 0⟩ = false) (hwf : R.wf ⟨2, frame, 0, p0, p1, 0, 0, 0, 0⟩) :
    Calls Try.prog 11 #[.string s] w fun r w' => r = .returned (.tuple #[.agg (rc R.zero), .int .i64 4]) ∧ Below w.heap.size w w' := by
  have h0 : 0 < s.size := by omega
  obtain ⟨n1, n2, n3⟩ := ne_facts h0
  have hres : Blk (w.alloc (.cells (rc R.zero) 33)) w.heap.size (rc R.zero) 33 := heap_alloc_new w _
  have hB : Below w.heap.size w (w.alloc (.cells (rc R.zero) 33)) := (Below.refl _ w).alloc (Nat.le_refl _) _
  have HLo := Lib.hid (Long2)
  have Nframe := fun W => number_any s 1 W (by rw [hs]; unfold maxLen; decide) (by omega)
  rw [hframe] at Nframe
  have Hframe := Lib.hid Nframe
  have lframe : frame < 18446744073709551616 := by rw [← hframe]; exact V_take _ _ 8
  have lp0 : p0 < 256 := by rw [← hp0]; exact UInt8.toNat_lt _
  have lp1 : p1 < 256 := by rw [← hp1]; exact UInt8.toNat_lt _
  have hM := fun W => may_any ⟨2, frame, 0, p0, p1, 0, 0, 0, 0⟩ W hwf
  rw [hr] at hM
  have HM := Lib.hid hM
  clear hM hr hwf Nframe hframe
  have j0 : 0 < s.size := by omega
  have J0 : (0 : Int) < (s.size : Int) := by omega
  have j9 : 9 < s.size := by omega
  have J9 : (9 : Int) < (s.size : Int) := by omega
  have j10 : 10 < s.size := by omega
  have J10 : (10 : Int) < (s.size : Int) := by omega
  go_enter Try.func11, Try.ntmps11
  go_wp2_with fail
  refine (HLo.out _).mono ?_
  rintro e w1 ⟨rfl, hb1⟩
  have hres1 : Blk w1 w.heap.size (rc R.zero) 33 := (hb1.block _ (by simp)).trans hres
  have hB1 : Below w.heap.size w w1 := hB.trans (hb1.mono (by simp))
  have hz1 : w.heap.size < w1.heap.size := hres1.lt
  clear hres hB hb1
  go_wp2_with fail
  refine (HLo.out _).mono ?_
  rintro e w2 ⟨rfl, hb2⟩
  have hres2 : Blk w2 w.heap.size (rc R.zero) 33 := (hb2.block _ hz1).trans hres1
  have hB2 : Below w.heap.size w w2 := hB1.trans (hb2.mono (Nat.le_of_lt hz1))
  have hz2 : w.heap.size < w2.heap.size := hres2.lt
  clear hres1 hB1 hb2 hz1
  go_wp2_with fail
  refine (Hframe.out _).mono ?_
  rintro e w' ⟨rfl, rfl⟩
  go_wp2_with fail
  go_region
  all_goals go_wp2_with fail
  all_goals
    refine (HM.out _).mono ?_
    rintro e w3 ⟨rfl, hb3⟩
    have hres3 : Blk w3 w.heap.size (rc R.zero) 33 := (hb3.block _ (by simp; omega)).trans (hres2.alloc (.cells (rc ⟨2, frame, 0, p0, p1, 0, 0, 0, 0⟩) 33))
    have hr3 : Blk w3 w2.heap.size (rc ⟨2, frame, 0, p0, p1, 0, 0, 0, 0⟩) 33 := (hb3.block _ (by simp)).trans (heap_alloc_new w2 _)
    have hB3 : Below w.heap.size w w3 := (hB2.alloc (Nat.le_of_lt hz2) (.cells (rc ⟨2, frame, 0, p0, p1, 0, 0, 0, 0⟩) 33)).drew.trans (hb3.mono (by simp; omega))
    clear hres2 hB2 hb3 hz2
    go_wp2_with (refine store_rrec (.tmp 2) (.tmp 68) w.heap.size R.zero R.zero hres3 rfl rfl rfl rfl rfl ?_)
    exact bodyPost_ret (v := .tuple #[.agg (rc R.zero), .int .i64 4]) (end_rtake _ rfl rfl (setRow_heap _ _ _ _ _ _ hres3)) rfl ⟨rfl, below_setRow hB3 (Nat.le_refl _) _⟩
set_option maxRecDepth 100000 in
theorem rtake_3wrong (s : ByteArray) (seg first epoch player : Nat) (w : World) (hs : s.size = 26) (hk : (s[0]'(by omega)).toNat = 3) (hseg : V ((s.data.toList.drop 1).take 8) = seg) (hfirst : V ((s.data.toList.drop 9).take 8) = first) (hepoch : V ((s.data.toList.drop 17).take 8) = epoch) (hplayer : (s[25]'(by omega)).toNat = player) (hr : MayB ⟨3, 0, 0, 0, 0, seg, first, epoch, player⟩ = false) (hwf : R.wf ⟨3, 0, 0, 0, 0, seg, first, epoch, player⟩) :
    Calls Try.prog 11 #[.string s] w fun r w' => r = .returned (.tuple #[.agg (rc R.zero), .int .i64 4]) ∧ Below w.heap.size w w' := by
  have h0 : 0 < s.size := by omega
  obtain ⟨n1, n2, n3⟩ := ne_facts h0
  have hres : Blk (w.alloc (.cells (rc R.zero) 33)) w.heap.size (rc R.zero) 33 := heap_alloc_new w _
  have hB : Below w.heap.size w (w.alloc (.cells (rc R.zero) 33)) := (Below.refl _ w).alloc (Nat.le_refl _) _
  have HLo := Lib.hid (Long3)
  have Nseg := fun W => number_any s 1 W (by rw [hs]; unfold maxLen; decide) (by omega)
  rw [hseg] at Nseg
  have Hseg := Lib.hid Nseg
  have lseg : seg < 18446744073709551616 := by rw [← hseg]; exact V_take _ _ 8
  have Nfirst := fun W => number_any s 9 W (by rw [hs]; unfold maxLen; decide) (by omega)
  rw [hfirst] at Nfirst
  have Hfirst := Lib.hid Nfirst
  have lfirst : first < 18446744073709551616 := by rw [← hfirst]; exact V_take _ _ 8
  have Nepoch := fun W => number_any s 17 W (by rw [hs]; unfold maxLen; decide) (by omega)
  rw [hepoch] at Nepoch
  have Hepoch := Lib.hid Nepoch
  have lepoch : epoch < 18446744073709551616 := by rw [← hepoch]; exact V_take _ _ 8
  have lplayer : player < 256 := by rw [← hplayer]; exact UInt8.toNat_lt _
  have hM := fun W => may_any ⟨3, 0, 0, 0, 0, seg, first, epoch, player⟩ W hwf
  rw [hr] at hM
  have HM := Lib.hid hM
  clear hM hr hwf Nseg hseg Nfirst hfirst Nepoch hepoch
  have j0 : 0 < s.size := by omega
  have J0 : (0 : Int) < (s.size : Int) := by omega
  have j25 : 25 < s.size := by omega
  have J25 : (25 : Int) < (s.size : Int) := by omega
  go_enter Try.func11, Try.ntmps11
  go_wp2_with fail
  refine (HLo.out _).mono ?_
  rintro e w1 ⟨rfl, hb1⟩
  have hres1 : Blk w1 w.heap.size (rc R.zero) 33 := (hb1.block _ (by simp)).trans hres
  have hB1 : Below w.heap.size w w1 := hB.trans (hb1.mono (by simp))
  have hz1 : w.heap.size < w1.heap.size := hres1.lt
  clear hres hB hb1
  go_wp2_with fail
  refine (HLo.out _).mono ?_
  rintro e w2 ⟨rfl, hb2⟩
  have hres2 : Blk w2 w.heap.size (rc R.zero) 33 := (hb2.block _ hz1).trans hres1
  have hB2 : Below w.heap.size w w2 := hB1.trans (hb2.mono (Nat.le_of_lt hz1))
  have hz2 : w.heap.size < w2.heap.size := hres2.lt
  clear hres1 hB1 hb2 hz1
  go_wp2_with fail
  refine (Hseg.out _).mono ?_
  rintro e w' ⟨rfl, rfl⟩
  go_wp2_with fail
  refine (Hfirst.out _).mono ?_
  rintro e w' ⟨rfl, rfl⟩
  go_wp2_with fail
  refine (Hepoch.out _).mono ?_
  rintro e w' ⟨rfl, rfl⟩
  go_wp2_with fail
  refine (HM.out _).mono ?_
  rintro e w3 ⟨rfl, hb3⟩
  have hres3 : Blk w3 w.heap.size (rc R.zero) 33 := (hb3.block _ (by simp; omega)).trans (hres2.alloc _)
  have hr3 : Blk w3 w2.heap.size (rc ⟨3, 0, 0, 0, 0, seg, first, epoch, player⟩) 33 := (hb3.block _ (by simp)).trans (heap_alloc_new w2 _)
  have hB3 : Below w.heap.size w w3 := (hB2.alloc (Nat.le_of_lt hz2) _).trans (hb3.mono (by simp; omega))
  clear hres2 hB2 hb3 hz2
  go_wp2_with (refine store_rrec (.tmp 2) (.tmp 68) w.heap.size R.zero R.zero hres3 rfl rfl rfl rfl rfl ?_)
  exact bodyPost_ret (v := .tuple #[.agg (rc R.zero), .int .i64 4]) (end_rtake _ rfl rfl (setRow_heap _ _ _ _ _ _ hres3)) rfl ⟨rfl, below_setRow hB3 (Nat.le_refl _) _⟩
end Go.Proofs.Ytghgefiaijfbgaa.Rec
