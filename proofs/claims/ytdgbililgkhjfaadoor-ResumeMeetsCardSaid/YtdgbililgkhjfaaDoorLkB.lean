/- What the program's 'told' answers: walked. Conditions: the numbers are what their types bear; the lists lie in memory. -/
import Derived.Test.YtdgbililgkhjfaaDoorLkA
import Derived.Test.YtdgbililgkhjfaaDoorPkV
import Derived.Deep.DeepCutAuto
namespace Go.Proofs.YtdgbililgkhjfaaDoor.Lk
open Go.RowKit Go.Proofs.YtdgbililgkhjfaaDoor.Crc Go.Proofs.YtdgbililgkhjfaaDoor.Codec Go.Proofs.YtdgbililgkhjfaaDoor.Pk Go.Proofs.YtdgbililgkhjfaaDoor.CrcWalk Go.Proofs.YtdgbililgkhjfaaDoor.Frame
set_option linter.unusedVariables false
set_option linter.unusedSimpArgs false
abbrev KT := 72
abbrev LT := 74
/-- What is known of the other one, as cells. -/
def kc (e c o : Nat) (m : Bool) : Array Value := #[.int .u64 e, .int .u64 c, .int .u64 o, .bool m]
theorem kc_all (e c o : Nat) (m : Bool) : (kc e c o m).all (·.oneCell') = true := by simp [kc]; simp [Value.oneCell']
theorem kc_info (e c o : Nat) (m : Bool) : (Tryd.prog.info? KT).map (·.size) = some (kc e c o m).size := by kernel_rfl
theorem store_kc {ops : Array Oper} {rest : List Oper} {op : Oper} {a : Act} {w : World} {Q : Exit → Act → World → Prop} (x y : Operand) (g : Nat) (e0 c0 o0 : Nat) (m0 : Bool) (e c o : Nat) (m : Bool) (hb : Blk w g (kc e0 c0 o0 m0) KT) (hgd : op.guard = none) (ho : op.op = .store KT x y)
    (hd : op.dst = none) (hx : a.eval x = .pointer (some ⟨g, 0, none⟩)) (hy : a.eval y = .agg (kc e c o m)) (h : wpList Tryd.prog ops Q rest a (w.setRow g (kc e c o m))) : wpList Tryd.prog ops Q (op :: rest) a w :=
  wpList_store_rowTo hgd KT x y ho hd g (kc e c o m) hx hy KT (kc e0 c0 o0 m0) hb (kc_info e c o m) rfl (kc_all e c o m) h
theorem load_kc {ops : Array Oper} {rest : List Oper} {op : Oper} {a : Act} {w : World} {Q : Exit → Act → World → Prop} (x : Operand) (g : Nat) (e c o : Nat) (m : Bool) (hb : Blk w g (kc e c o m) KT) (hgd : op.guard = none) (ho : op.op = .load KT x)
    (hx : a.eval x = .pointer (some ⟨g, 0, none⟩)) (h : wpList Tryd.prog ops Q rest (a.put op.dst (.agg (kc e c o m))) w) : wpList Tryd.prog ops Q (op :: rest) a w :=
  wpList_load_row hgd KT x ho g hx KT (kc e c o m) (0, 0) _ hb Tryd.underlying72 rfl (kc_info e c o m) h
/-- Three blocks under way: what is known, the packet, the result. -/
structure Tw (w : World) (k : K) (vi vp : Value) (e c o : Nat) (m : Bool) (W : World) : Prop where
  a : Blk W w.heap.size (kc e c o m) KT
  b : Blk W (w.heap.size + 1) (pc k vi vp) 26
  c : Blk W (w.heap.size + 1 + 1) (kc 0 0 0 false) KT
  bel : Below w.heap.size w W
theorem Tw.step {w W : World} {k : K} {vi vp : Value} {e c o : Nat} {m : Bool} (h : Tw w k vi vp e c o m W) (off : Nat) (v : Value) (e' c' o' : Nat) (m' : Bool) (hs : (kc e c o m).setIfInBounds off v = kc e' c' o' m') : Tw w k vi vp e' c' o' m' (W.setCell ⟨w.heap.size, off, none⟩ v) := by
  refine ⟨hs ▸ h.a.set v, ?_, ?_, h.bel.setCell (p := ⟨w.heap.size, off, none⟩) (Nat.le_refl _) v⟩
  · exact far_blk h.b (by omega) _ _
  · exact far_blk h.c (by omega) _ _
theorem ret_kc {e c o e' c' o' : Nat} {m m' : Bool} (h1 : e = e') (h2 : c = c') (h3 : o = o') (h4 : m = m') : Ending.returned (.agg (kc e c o m)) = .returned (.agg (kc e' c' o' m')) := by subst h1; subst h2; subst h3; subst h4; rfl
set_option maxRecDepth 100000 in
set_option maxHeartbeats 4000000 in
/-- What 'told' answers. -/
theorem told_any (l : L) (k : K) (vi vp : Value) (w : World) (hl : l.wf) (hk : k.wf) (hm : k.may) (hi : ∃ b c, vi = .slice b k.ins.length c) :
    Calls Tryd.prog 74 #[.agg (kc l.epoch l.count l.owned l.met), .agg (pc k vi vp), .int .u64 l.own] w fun r w' => r = .returned (.agg (kc (l.told k).epoch (l.told k).count (l.told k).owned (l.told k).met)) ∧ Below w.heap.size w w' := by
  have h1 := hm.2.2.2.2.2.2.2.2.1
  have h2 := hm.2.2.2.2.2.2.2.1
  obtain ⟨bi, ci, rfl⟩ := hi
  have g1 := hl.epoch
  have g2 := hl.count
  have g3 := hl.owned
  have g4 := hl.own
  have g5 := hk.epoch
  have g6 := hk.dest
  have g7 := hk.count
  have g8 := hk.own
  have g9 := hk.first
  obtain ⟨n, hn⟩ : ∃ n, n = k.ins.length := ⟨_, rfl⟩
  have hX : ∃ e c o m, e = (l.told k).epoch ∧ c = (l.told k).count ∧ o = (l.told k).owned ∧ m = (l.told k).met := ⟨_, _, _, _, rfl, rfl, rfl, rfl⟩
  obtain ⟨e, c, o, m, he, hc, ho, hm'⟩ := hX
  rw [← he, ← hc, ← ho, ← hm']
  simp only [L.told] at he hc ho hm'
  rw [← hn] at ho h1 h2 ⊢
  have HE := Lib.hid he
  have HC := Lib.hid hc
  have HO := Lib.hid ho
  have HM := Lib.hid hm'
  have hT0 : Tw w k (.slice bi n ci) vp l.epoch l.count l.owned l.met (((w.alloc (.cells (kc l.epoch l.count l.owned l.met) KT)).alloc (.cells (pc k (.slice bi n ci) vp) 26)).alloc (.cells (kc 0 0 0 false) KT)) := by
    refine ⟨?_, ?_, ?_, (((Below.refl _ w).alloc (Nat.le_refl _) _).alloc (by simp) _).alloc (by simp; omega) _⟩
    · exact (show Blk (w.alloc _) _ _ _ from heap_alloc_new w _).alloc _ |>.alloc _
    · refine Blk.alloc (show Blk ((w.alloc (.cells (kc l.epoch l.count l.owned l.met) KT)).alloc _) _ _ _ from ?_) _
      have := heap_alloc_new (w.alloc (.cells (kc l.epoch l.count l.owned l.met) KT)) (.cells (pc k (.slice bi n ci) vp) 26)
      rw [World.size_alloc] at this
      exact this
    · have := heap_alloc_new ((w.alloc (.cells (kc l.epoch l.count l.owned l.met) KT)).alloc (.cells (pc k (.slice bi n ci) vp) 26)) (.cells (kc 0 0 0 false) KT)
      rw [World.size_alloc, World.size_alloc] at this
      exact this
  clear hl hk hm he hc ho hm' hn
  go_enter Tryd.func74, Tryd.ntmps74
  go_upto_region 1 with fail
  change Code.wp _ _ _ _ (((w.alloc (.cells (kc l.epoch l.count l.owned l.met) KT)).alloc (.cells (pc k (.slice bi n ci) vp) 26)).alloc (.cells (kc 0 0 0 false) KT))
  generalize (((w.alloc (.cells (kc l.epoch l.count l.owned l.met) KT)).alloc (.cells (pc k (.slice bi n ci) vp) 26)).alloc (.cells (kc 0 0 0 false) KT)) = wx at *
  have a0 : wx.cell? ⟨w.heap.size, 0, none⟩ = some (.int .u64 l.epoch) := hT0.a.cell _ rfl
  have a3 : wx.cell? ⟨w.heap.size, 3, none⟩ = some (.bool l.met) := hT0.a.cell _ rfl
  have b2 : wx.cell? ⟨w.heap.size + 1, 2, none⟩ = some (.int .u64 k.epoch) := hT0.b.cell _ rfl
  have f0 : wx.frozen? ⟨w.heap.size, 0, none⟩ = false := hT0.a.free
  have f3 : wx.frozen? ⟨w.heap.size, 3, none⟩ = false := hT0.a.free
  have lt0 := hT0.a.lt
  have HT0 := Lib.hid hT0
  clear hT0
  obtain ⟨em, hem⟩ : ∃ em, em = (!decide (l.epoch < k.epoch) && l.met) := ⟨_, rfl⟩
  go_upto_if 11 with fail
  go_cut [] (fun wy => Tw w k (.slice bi n ci) vp e l.count l.owned em wy)
  case first =>
    by_cases hlt : l.epoch < k.epoch
    · have HS := Lib.hid ((HT0.out.step 0 (.int .u64 k.epoch) k.epoch l.count l.owned l.met rfl).step 3 (.bool false) k.epoch l.count l.owned false rfl)
      have HQ := Lib.hid (show e = k.epoch ∧ em = false by rw [HE.out, hem]; simp [hlt]; omega)
      clear hem
      go_wp2
      go_meet
      rw [HQ.out.1, HQ.out.2]
      exact HS.out
    · have HQ := Lib.hid (show e = l.epoch ∧ em = l.met by rw [HE.out, hem]; simp [hlt]; omega)
      clear hem
      go_wp2
      go_meet
      rw [HQ.out.1, HQ.out.2]
      exact HT0.out
  case rest =>
  have HEM := Lib.hid hem
  clear hem a0 a3 b2 f0 f3 lt0 HT0
  have hT := hcut
  have HT := Lib.hid hT
  have a1 : wc.cell? ⟨w.heap.size, 1, none⟩ = some (.int .u64 l.count) := hT.a.cell _ rfl
  have a2 : wc.cell? ⟨w.heap.size, 2, none⟩ = some (.int .u64 l.owned) := hT.a.cell _ rfl
  have a3 : wc.cell? ⟨w.heap.size, 3, none⟩ = some (.bool em) := hT.a.cell _ rfl
  have b0 : wc.cell? ⟨w.heap.size + 1, 0, none⟩ = some (.int .i64 k.kind) := hT.b.cell _ rfl
  have b3 : wc.cell? ⟨w.heap.size + 1, 3, none⟩ = some (.int .u64 k.dest) := hT.b.cell _ rfl
  have b4 : wc.cell? ⟨w.heap.size + 1, 4, none⟩ = some (.int .u64 k.count) := hT.b.cell _ rfl
  have b5 : wc.cell? ⟨w.heap.size + 1, 5, none⟩ = some (.int .u64 k.own) := hT.b.cell _ rfl
  have b6 : wc.cell? ⟨w.heap.size + 1, 6, none⟩ = some (.int .u64 k.first) := hT.b.cell _ rfl
  have b7 : wc.cell? ⟨w.heap.size + 1, 7, none⟩ = some (.slice bi n ci) := hT.b.cell _ rfl
  have f1 : wc.frozen? ⟨w.heap.size, 1, none⟩ = false := hT.a.free
  have f2 : wc.frozen? ⟨w.heap.size, 2, none⟩ = false := hT.a.free
  have f3 : wc.frozen? ⟨w.heap.size, 3, none⟩ = false := hT.a.free
  clear hT hcut
  go_upto_region 3 with fail
  go_cut [] (fun wy => Tw w k (.slice bi n ci) vp e l.count l.owned m wy)
  case first =>
    cases em with
    | true =>
      have HS := Lib.hid (HT.out.step 3 (.bool true) e l.count l.owned true rfl)
      have HQ := Lib.hid (show m = true by rw [HM.out, ← HEM.out]; rfl)
      clear HM HEM HT
      go_wp2
      go_meet
      rw [HQ.out]
      exact HS.out
    | false =>
      obtain ⟨D, hD⟩ : ∃ D, ((k.dest : Int) == (l.own : Int)) = D := ⟨_, rfl⟩
      have HS := Lib.hid (HT.out.step 3 (.bool D) e l.count l.owned D rfl)
      have HQ := Lib.hid (show m = D by
        rw [HM.out, ← HEM.out, ← hD, Bool.false_or, Bool.eq_iff_iff]
        simp only [decide_eq_true_iff, beq_iff_eq]
        omega)
      clear HM HEM HT
      go_wp2
      go_meet
      rw [HQ.out]
      exact HS.out
  case rest =>
  have HT := Lib.hid hcut
  have a1 : wc.cell? ⟨w.heap.size, 1, none⟩ = some (.int .u64 l.count) := hcut.a.cell _ rfl
  have b4 : wc.cell? ⟨w.heap.size + 1, 4, none⟩ = some (.int .u64 k.count) := hcut.b.cell _ rfl
  have f1 : wc.frozen? ⟨w.heap.size, 1, none⟩ = false := hcut.a.free
  clear hcut
  go_upto_region 4 with fail
  go_cut [] (fun wy => Tw w k (.slice bi n ci) vp e c l.owned m wy)
  case first =>
    have HS1 := Lib.hid (HT.out.step 1 (.int .u64 l.count) e l.count l.owned m rfl)
    have HS2 := Lib.hid (HT.out.step 1 (.int .u64 k.count) e k.count l.owned m rfl)
    clear HT
    go_wp2
    all_goals
      go_meet
      first
        | (have hq : c = l.count := by rw [HC.out]; omega
           rw [hq]; exact HS1.out)
        | (have hq : c = k.count := by rw [HC.out]; omega
           rw [hq]; exact HS2.out)
  case rest =>
  have HT := Lib.hid hcut
  have a2 : wc.cell? ⟨w.heap.size, 2, none⟩ = some (.int .u64 l.owned) := hcut.a.cell _ rfl
  have b5 : wc.cell? ⟨w.heap.size + 1, 5, none⟩ = some (.int .u64 k.own) := hcut.b.cell _ rfl
  have f2 : wc.frozen? ⟨w.heap.size, 2, none⟩ = false := hcut.a.free
  obtain ⟨o1, ho1⟩ : ∃ o1, o1 = max l.owned k.own := ⟨_, rfl⟩
  have HO1 := Lib.hid ho1
  have ho1b : o1 < 18446744073709551616 := by omega
  clear hcut ho1
  go_upto_region 5 with fail
  go_cut [] (fun wy => Tw w k (.slice bi n ci) vp e c o1 m wy)
  case first =>
    have HS1 := Lib.hid (HT.out.step 2 (.int .u64 l.owned) e c l.owned m rfl)
    have HS2 := Lib.hid (HT.out.step 2 (.int .u64 k.own) e c k.own m rfl)
    clear HT
    go_wp2
    all_goals
      go_meet
      first
        | (have hq : o1 = l.owned := by rw [HO1.out]; omega
           rw [hq]; exact HS1.out)
        | (have hq : o1 = k.own := by rw [HO1.out]; omega
           rw [hq]; exact HS2.out)
  case rest =>
  have HT := Lib.hid hcut
  have a2 : wc.cell? ⟨w.heap.size, 2, none⟩ = some (.int .u64 o1) := hcut.a.cell _ rfl
  have b0 : wc.cell? ⟨w.heap.size + 1, 0, none⟩ = some (.int .i64 k.kind) := hcut.b.cell _ rfl
  have b6 : wc.cell? ⟨w.heap.size + 1, 6, none⟩ = some (.int .u64 k.first) := hcut.b.cell _ rfl
  have b7 : wc.cell? ⟨w.heap.size + 1, 7, none⟩ = some (.slice bi n ci) := hcut.b.cell _ rfl
  have f2 : wc.frozen? ⟨w.heap.size, 2, none⟩ = false := hcut.a.free
  clear hcut
  go_upto_if 39 with fail
  go_cut [] (fun wy => Tw w k (.slice bi n ci) vp e c o m wy)
  case first =>
    by_cases hk3 : k.kind = 3
    · have t3 : (k.kind == 3) = true := by rw [hk3]; rfl
      obtain ⟨fs, hfs⟩ : ∃ fs, fs = k.first + n := ⟨_, rfl⟩
      have e1 : IntKind.u64.wrap (n : Int) = (n : Int) := IntWalk.u64_in _ (by omega)
      have e2 : IntKind.u64.wrap ((k.first : Int) + (n : Int)) = (fs : Int) := by rw [IntWalk.u64_in _ (by omega)]; omega
      have HQ := Lib.hid (show o = max o1 fs by rw [HO.out, HO1.out, hfs, if_pos hk3])
      have HS1 := Lib.hid (HT.out.step 2 (.int .u64 o1) e c o1 m rfl)
      have HS2 := Lib.hid (HT.out.step 2 (.int .u64 fs) e c fs m rfl)
      clear HT hfs hk3
      go_wp2
      all_goals
        go_meet
        first
          | (have hq : o = o1 := by rw [HQ.out]; omega
             rw [hq]; exact HS1.out)
          | (have hq : o = fs := by rw [HQ.out]; omega
             rw [hq]; exact HS2.out)
    · have t3 : (k.kind == 3) = false := by rw [beq_eq_false_iff_ne]; exact hk3
      have HQ := Lib.hid (show o = o1 by rw [HO.out, HO1.out, if_neg hk3])
      clear hk3
      go_wp2
      go_meet
      rw [HQ.out]
      exact HT.out
  case rest =>
  have hb := hcut.a
  have hb2 := hcut.c
  have hbel := hcut.bel
  clear hcut
  go_wp2_with (first | (refine load_kc (.tmp 3) w.heap.size e c o m hb rfl rfl rfl ?_) | (refine store_kc (.tmp 6) (.tmp 51) (w.heap.size + 1 + 1) 0 0 0 false e c o m hb2 rfl rfl rfl rfl rfl ?_))
  exact bodyPost_ret (v := .agg (kc e c o m)) (results_cell_row rfl _ _ (w.heap.size + 1 + 1) KT (kc e c o m) (0, 0) _ rfl (setRow_heap _ _ _ _ _ _ hb2) Tryd.underlying72 rfl (kc_info e c o m)) rfl ⟨rfl, below_setRow hbel (by omega) _⟩
end Go.Proofs.YtdgbililgkhjfaaDoor.Lk
