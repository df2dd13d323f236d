/- The small functions of the laws of the layer packet: walked. Conditions: the table; the lists lie in memory. -/
import Derived.Test.YtdgbililgkhjfaaDoorPkV
import Derived.Test.YtdgbililgkhjfaaDoorDrawG
namespace Go.Proofs.YtdgbililgkhjfaaDoor.Pk
open Go.RowKit Go.Proofs.YtdgbililgkhjfaaDoor.Crc Go.Proofs.YtdgbililgkhjfaaDoor.Codec Go.Proofs.YtdgbililgkhjfaaDoor.CrcWalk Go.Proofs.YtdgbililgkhjfaaDoor.Frame
set_option linter.unusedVariables false
/-- The chapter's. -/
def hK : K := ⟨1, 1, 2, 0, 3, 4, 0, [], [], 0, 0⟩
theorem hK_wf : hK.wf := by constructor <;> decide
theorem hK_may : hK.may := by decide +kernel
theorem zero_wf : K.zero.wf := by constructor <;> decide
theorem zero_put : pPut K.zero = ([], 4) := if_neg fun h => absurd h.1.1 (by decide)
theorem hK_put : pPut hK = (fput hK.pay, 0) := if_pos ⟨hK_may, by rfl⟩
theorem hK_len : (bs (fput hK.pay)).size = 40 := by rw [bs_size, fput_length (by decide)]; rfl
theorem hK_take : pT (fput hK.pay) = (hK, 0) := by rw [pT_pay hK_wf hK_may]; exact if_pos hK_may
set_option maxRecDepth 100000 in
theorem hello_any (w : World) : Calls Tryd.prog 54 #[] w fun r w' => r = .returned (.agg (pc hK (.slice none 0 0) (.slice none 0 0))) ∧ Below w.heap.size w w' := by
  have hn : Blk (w.alloc (.cells (pc K.zero (.slice none 0 0) (.slice none 0 0)) 26)) w.heap.size (pc K.zero (.slice none 0 0) (.slice none 0 0)) 26 := heap_alloc_new w _
  go_enter Tryd.func54, Tryd.ntmps54
  go_wp2_with (refine store_pk (.tmp 0) (.tmp 1) w.heap.size K.zero hK _ _ _ _ slnil hn rfl rfl rfl rfl rfl ?_)
  refine bodyPost_ret (v := .agg (pc hK (.slice none 0 0) (.slice none 0 0))) ?_ rfl ⟨rfl, below_setRow ((Below.refl _ w).alloc (Nat.le_refl _) _) (Nat.le_refl _) _⟩
  exact (results_cell_row rfl _ _ w.heap.size 26 (pc hK (.slice none 0 0) (.slice none 0 0)) (0, 0) _ rfl (setRow_heap _ _ _ _ _ _ hn) Tryd.underlying26 rfl (by kernel_rfl))
set_option maxRecDepth 100000 in
theorem none_yes (k : K) (vi vp : Value) (w : World) (hk : k.wf) (hi : Ins w vi k.ins) (hp : Prs w vp k.prs) (hT : Tab w) (h : pPut k = ([], 4)) :
    Calls Tryd.prog 24 #[.agg (pc k vi vp)] w fun r w' => r = .returned (.bool true) ∧ Below w.heap.size w w' := by
  have hP := fun W (h : Below w.heap.size w W) => put_any k vi vp W hk (hi.below h) (hp.below h) (tab_below hT h)
  rw [h, show bs ([], (4 : Int)).1 = ⟨#[]⟩ from rfl] at hP
  have HP := Lib.hid hP
  clear hP h hk hi hp hT
  go_enter Tryd.func24, Tryd.ntmps24
  go_wp2_with (first | (refine load_pk (.tmp 1) w.heap.size k vi vp (heap_alloc_new w _) rfl rfl rfl ?_))
  refine (HP.out _ ((Below.refl _ w).alloc (Nat.le_refl _) _)).mono ?_
  rintro e w1 ⟨rfl, hb⟩
  have hB : Below w.heap.size w w1 := ((Below.refl _ w).alloc (Nat.le_refl _) _).trans (hb.mono (by simp))
  clear hb
  go_wp2
  go_ret
  exact ⟨rfl, hB⟩
set_option maxRecDepth 100000 in
set_option maxHeartbeats 4000000 in
theorem awake_any (w : World) (hT : Tab w) : Calls Tryd.prog 17 #[] w fun r w' => r = .returned (.bool true) ∧ Below w.heap.size w w' := by
  have hP := fun W (h : Below w.heap.size w W) => put_any hK (.slice none 0 0) (.slice none 0 0) W hK_wf (ins_nil W) (prs_nil W) (tab_below hT h)
  have hTk := fun W (h : Below w.heap.size w W) => take_any (bs (fput hK.pay)) W (by rw [hK_len]; decide) (tab_below hT h)
  have hN := fun W (h : Below w.heap.size w W) => none_yes K.zero (.slice none 0 0) (.slice none 0 0) W zero_wf (ins_nil W) (prs_nil W) (tab_below hT h) zero_put
  rw [hK_put] at hP
  rw [bs_toList, hK_take] at hTk
  have e40 := hK_len
  dsimp only at hP
  generalize bs (fput hK.pay) = TX at *
  have e40' : ((TX.size : Int) == 40) = true := by rw [e40]; rfl
  have HP := Lib.hid hP
  have HTk := Lib.hid hTk
  have HN := Lib.hid hN
  clear hP hTk hN
  go_enter Tryd.func17, Tryd.ntmps17
  go_wp2_with fail
  refine (hello_any _).mono ?_
  rintro e w1 ⟨rfl, hb1⟩
  go_wp2_with fail
  refine (HP.out _ hb1).mono ?_
  rintro e w2 ⟨rfl, hb2⟩
  have hB2 : Below w.heap.size w w2 := hb1.trans (hb2.mono hb1.size)
  clear hb1 hb2
  go_wp2_with fail
  refine (HTk.out _ hB2).mono ?_
  rintro e w3 ⟨⟨vi, vp, rfl, hi3, hp3⟩, hb3⟩
  have hB3 : Below w.heap.size w w3 := hB2.trans (hb3.mono hB2.size)
  have hs3 := sl_of hi3 hp3
  have hn3 : Blk (w3.alloc (.cells (pc K.zero (.slice none 0 0) (.slice none 0 0)) 26)) w3.heap.size (pc K.zero (.slice none 0 0) (.slice none 0 0)) 26 := heap_alloc_new w3 _
  clear hb3 hB2
  go_wp2_with (first | (refine store_pk (.tmp 3) (.tmp 13) w3.heap.size K.zero hK _ _ vi vp hs3 hn3 rfl rfl rfl rfl rfl ?_))
  have hb4 : Below w3.heap.size w3 ((w3.alloc (.cells (pc K.zero (.slice none 0 0) (.slice none 0 0)) 26)).setRow w3.heap.size (pc hK vi vp)) := below_setRow ((Below.refl _ w3).alloc (Nat.le_refl _) _) (Nat.le_refl _) _
  have hx4 : Blk ((w3.alloc (.cells (pc K.zero (.slice none 0 0) (.slice none 0 0)) 26)).setRow w3.heap.size (pc hK vi vp)) w3.heap.size (pc hK vi vp) 26 := setRow_heap _ _ _ _ _ _ hn3
  have hB4 := hB3.trans (hb4.mono hB3.size)
  have hi4 := hi3.below hb4
  have hp4 := hp3.below hb4
  go_upto_region 3 with fail
  change Code.wp _ _ _ _ ((w3.alloc (.cells (pc K.zero (.slice none 0 0) (.slice none 0 0)) 26)).setRow w3.heap.size (pc hK vi vp))
  generalize ((w3.alloc (.cells (pc K.zero (.slice none 0 0) (.slice none 0 0)) 26)).setRow w3.heap.size (pc hK vi vp)) = w4 at *
  have HSA := Lib.hid (fun W (h : Below w4.heap.size w4 W) => same_any hK hK vi vp (.slice none 0 0) (.slice none 0 0) W (hi4.below h) (hp4.below h) (ins_nil W) (prs_nil W))
  rw [decide_eq_true (show hK = hK from rfl)] at HSA
  have HB4 := Lib.hid hB4
  have l4 := hx4.lt
  clear hi4 hp4 hi3 hp3 hb4 hn3 hB3 hB4 HP HTk hs3 e40
  refine Draw.wp_region_guards (fun W => Below w4.heap.size w4 W) (fun W W' => Below W.heap.size W W') (fun i W v => match i with
      | 0 => v = .string TX
      | 1 => v = .int .i64 TX.size
      | 2 => v = .bool true
      | 3 => v = .bool true
      | 4 => v = .int .i64 0
      | 5 => v = .bool true
      | 6 => v = .bool true
      | 7 => v = .bool true
      | 8 => v = .int .i64 0
      | 9 => v = .bool true
      | 10 => v = .bool true
      | 11 => v = .bool true
      | 12 => v = .agg (pc hK vi vp)
      | 13 => v = .agg (pc hK (.slice none 0 0) (.slice none 0 0))
      | 14 => v = .bool true
      | 15 => v = .bool true
      | 16 => v = .bool true
      | 17 => v = .agg (pc K.zero (.slice none 0 0) (.slice none 0 0))
      | 18 => v = .bool true
      | 19 => v = .bool true
      | _ => v = .bool true) (by kernel_rfl) (by kernel_rfl) (by decide) rfl ?_ (Below.refl _ w4).drew ?_ ?_
  · intro i W W' v he hf
    exact hf
  · refine ⟨?_, ?_, ?_, ?_, ?_, ?_, ?_, ?_, ?_, ?_, ?_, ?_, ?_, ?_, ?_, ?_, ?_, ?_, ?_, ?_, ?_, trivial⟩
    all_goals intro ρ W hJ hc hf hKn
    · refine Draw.Goes.plain rfl ?_
      exact Draw.Runs.value (w' := W) (v := ρ (.tmp 1)) rfl ⟨hJ, Below.refl _ _, hKn.2 1 rfl⟩
    · refine Draw.Goes.plain rfl ?_
      have h0 : ρ (.tmp 15) = .string TX := hKn.get 0 15 rfl rfl
      refine Draw.Runs.value (w' := W) (v := .int .i64 TX.size) ?_ ⟨hJ, Below.refl _ _, rfl⟩
      simp only [execOp]; go_simp
    · refine Draw.Goes.plain rfl ?_
      have h0 : ρ (.tmp 16) = .int .i64 TX.size := hKn.get 1 16 rfl rfl
      refine Draw.Runs.value (w' := W) (v := .bool true) ?_ ⟨hJ, Below.refl _ _, rfl⟩
      simp only [execOp]; go_simp
    · refine Draw.Goes.plain rfl ?_
      exact Draw.Runs.value (w' := W) (v := ρ (.tmp 17)) rfl ⟨hJ, Below.refl _ _, hKn.get 2 17 rfl rfl⟩
    · refine Draw.Goes.yes 3 true 18 rfl rfl (hKn.get 3 18 rfl rfl) ?_
      exact Draw.Runs.value (w' := W) (v := ρ (.tmp 2)) rfl ⟨hJ, Below.refl _ _, hKn.2 2 rfl⟩
    · refine Draw.Goes.yes 3 true 18 rfl rfl (hKn.get 3 18 rfl rfl) ?_
      have h0 : ρ (.tmp 19) = .int .i64 0 := hKn.get 4 19 rfl rfl
      refine Draw.Runs.value (w' := W) (v := .bool true) ?_ ⟨hJ, Below.refl _ _, rfl⟩
      simp only [execOp]; go_simp
    · refine Draw.Goes.plain rfl ?_
      have h0 : ρ (.tmp 18) = .bool true := hKn.get 3 18 rfl rfl
      have h1 : ρ (.tmp 20) = .bool true := hKn.get 5 20 rfl rfl
      refine Draw.Runs.value (w' := W) (v := .bool true) ?_ ⟨hJ, Below.refl _ _, rfl⟩
      simp only [execOp]; go_simp
    · refine Draw.Goes.plain rfl ?_
      exact Draw.Runs.value (w' := W) (v := ρ (.tmp 21)) rfl ⟨hJ, Below.refl _ _, hKn.get 6 21 rfl rfl⟩
    · refine Draw.Goes.yes 7 true 22 rfl rfl (hKn.get 7 22 rfl rfl) ?_
      exact Draw.Runs.value (w' := W) (v := ρ (.tmp 4)) rfl ⟨hJ, Below.refl _ _, hKn.2 4 rfl⟩
    · refine Draw.Goes.yes 7 true 22 rfl rfl (hKn.get 7 22 rfl rfl) ?_
      have h0 : ρ (.tmp 23) = .int .i64 0 := hKn.get 8 23 rfl rfl
      refine Draw.Runs.value (w' := W) (v := .bool true) ?_ ⟨hJ, Below.refl _ _, rfl⟩
      simp only [execOp]; go_simp
    · refine Draw.Goes.plain rfl ?_
      have h0 : ρ (.tmp 22) = .bool true := hKn.get 7 22 rfl rfl
      have h1 : ρ (.tmp 24) = .bool true := hKn.get 9 24 rfl rfl
      refine Draw.Runs.value (w' := W) (v := .bool true) ?_ ⟨hJ, Below.refl _ _, rfl⟩
      simp only [execOp]; go_simp
    · refine Draw.Goes.plain rfl ?_
      exact Draw.Runs.value (w' := W) (v := ρ (.tmp 25)) rfl ⟨hJ, Below.refl _ _, hKn.get 10 25 rfl rfl⟩
    · refine Draw.Goes.yes 11 true 26 rfl rfl (hKn.get 11 26 rfl rfl) ?_
      have h0 : ρ (.tmp 3) = .pointer (some ⟨w3.heap.size, 0, none⟩) := hKn.2 3 rfl
      exact Draw.Runs.value (w' := W) (Draw.load_row 26 (.tmp 3) rfl w3.heap.size h0 26 (pc hK vi vp) (0, 0) _ ((hJ.block _ l4).trans hx4) Tryd.underlying26 rfl (pc_info hK vi vp)) ⟨hJ, Below.refl _ _, rfl⟩
    · refine Draw.Goes.yes 11 true 26 rfl rfl (hKn.get 11 26 rfl rfl) ?_
      refine Draw.Runs.enter (f := 54) (args := #[]) ?_ ((hello_any W).mono fun e W' ⟨he, hb⟩ => ⟨_, he, hJ.trans (hb.mono hJ.size), hb, rfl⟩)
      simp only [execOp]; go_simp
    · refine Draw.Goes.yes 11 true 26 rfl rfl (hKn.get 11 26 rfl rfl) ?_
      have h0 : ρ (.tmp 27) = .agg (pc hK vi vp) := hKn.get 12 27 rfl rfl
      have h1 : ρ (.tmp 28) = .agg (pc hK (.slice none 0 0) (.slice none 0 0)) := hKn.get 13 28 rfl rfl
      refine Draw.Runs.enter (f := 20) (args := #[.agg (pc hK vi vp), .agg (pc hK (.slice none 0 0) (.slice none 0 0))]) ?_ ((HSA.out W hJ).mono fun e W' ⟨he, hb⟩ => ⟨_, he, hJ.trans (hb.mono hJ.size), hb, rfl⟩)
      simp only [execOp]; go_simp
    · refine Draw.Goes.plain rfl ?_
      have h0 : ρ (.tmp 26) = .bool true := hKn.get 11 26 rfl rfl
      have h1 : ρ (.tmp 29) = .bool true := hKn.get 14 29 rfl rfl
      refine Draw.Runs.value (w' := W) (v := .bool true) ?_ ⟨hJ, Below.refl _ _, rfl⟩
      simp only [execOp]; go_simp
    · refine Draw.Goes.plain rfl ?_
      exact Draw.Runs.value (w' := W) (v := ρ (.tmp 30)) rfl ⟨hJ, Below.refl _ _, hKn.get 15 30 rfl rfl⟩
    · refine Draw.Goes.yes 16 true 31 rfl rfl (hKn.get 16 31 rfl rfl) ?_
      refine Draw.Runs.value (w' := W) (v := .agg (pc K.zero (.slice none 0 0) (.slice none 0 0))) ?_ ⟨hJ, Below.refl _ _, rfl⟩
      simp only [execOp, pc, K.zero]; go_simp
    · refine Draw.Goes.yes 16 true 31 rfl rfl (hKn.get 16 31 rfl rfl) ?_
      have h0 : ρ (.tmp 32) = .agg (pc K.zero (.slice none 0 0) (.slice none 0 0)) := hKn.get 17 32 rfl rfl
      refine Draw.Runs.enter (f := 24) (args := #[.agg (pc K.zero (.slice none 0 0) (.slice none 0 0))]) ?_ ((HN.out W (HB4.out.trans (hJ.mono HB4.out.size))).mono fun e W' ⟨he, hb⟩ => ⟨_, he, hJ.trans (hb.mono hJ.size), hb, rfl⟩)
      simp only [execOp]; go_simp
    · refine Draw.Goes.plain rfl ?_
      have h0 : ρ (.tmp 31) = .bool true := hKn.get 16 31 rfl rfl
      have h1 : ρ (.tmp 33) = .bool true := hKn.get 18 33 rfl rfl
      refine Draw.Runs.value (w' := W) (v := .bool true) ?_ ⟨hJ, Below.refl _ _, rfl⟩
      simp only [execOp]; go_simp
    · refine Draw.Goes.plain rfl ?_
      exact Draw.Runs.value (w' := W) (v := ρ (.tmp 34)) rfl ⟨hJ, Below.refl _ _, hKn.get 19 34 rfl rfl⟩
  · intro a' w' hJ hd hz hf hr
    have r0 : a'.tmps.getD 0 undef = .bool true := hf 20 _ 0 rfl rfl
    obtain ⟨t, d⟩ := a'
    obtain rfl : d = [] := hd
    go_wp2
    exact bodyPost_ret (v := .bool true) ((Draw.results1 rfl _ _ _).trans (by rw [r0])) rfl ⟨rfl, HB4.out.trans (hJ.mono HB4.out.size)⟩
end Go.Proofs.YtdgbililgkhjfaaDoor.Pk
