/- New and Header of a link, and what the document's functions of a link answer: walked. Conditions: the numbers are what their types bear; the lists lie in memory. -/
import Derived.Test.YtdgbililgkhjfaaDoorLkC
import Derived.Test.YtdgbililgkhjfaaDoorPkD7
namespace Go.Proofs.YtdgbililgkhjfaaDoor.Lk
open Go.RowKit Go.Proofs.YtdgbililgkhjfaaDoor.Crc Go.Proofs.YtdgbililgkhjfaaDoor.Codec Go.Proofs.YtdgbililgkhjfaaDoor.Pk Go.Proofs.YtdgbililgkhjfaaDoor.CrcWalk Go.Proofs.YtdgbililgkhjfaaDoor.Frame
set_option linter.unusedVariables false
set_option linter.unusedSimpArgs false
abbrev RL := 67
abbrev RPk := 34
abbrev nS : Value := .slice none 0 0
/-- May there be such a link? -/
def mayL (p e : Nat) (v : Int) : Prop := p ≤ 1 ∧ 1 ≤ e ∧ 1 ≤ v ∧ v ≤ 16
instance (p e : Nat) (v : Int) : Decidable (mayL p e v) := by unfold mayL; infer_instance
set_option maxRecDepth 100000 in
theorem new_yes (p e v : Nat) (w : World) (h : mayL p e v) (he : e < 18446744073709551616) :
    Calls Tryd.prog 25 #[.int .u8 p, .int .u64 e, .int .i64 v] w fun r w' => r = .returned (.pointer (some ⟨w.heap.size, 0, none⟩)) ∧ Blk w' w.heap.size (lc (L.make p e v)) LT ∧ Below w.heap.size w w' := by
  obtain ⟨h1, h2, h3, h4⟩ := h
  have t1 : decide ((p : Int) > 1) = false := decide_eq_false (by omega)
  have t2 : ((e : Int) == 0) = false := by rw [beq_eq_false_iff_ne]; omega
  have t3 : decide ((v : Int) < 1) = false := decide_eq_false (by omega)
  have t4 : decide ((v : Int) > 16) = false := decide_eq_false (by omega)
  have t5 : IntKind.u64.wrap (v : Int) = (v : Int) := IntWalk.u64_in _ (by omega)
  have HB := Lib.hid (heap_alloc_new w (.cells (lc (L.make p e v)) LT))
  clear h1 h2 h3
  go_enter Tryd.func25, Tryd.ntmps25
  go_wp2
  go_ret
  exact ⟨rfl, HB.out, (Below.refl _ w).alloc (Nat.le_refl _) _⟩
set_option maxRecDepth 100000 in
theorem new_no (p e : Nat) (v : Int) (w : World) (h : ¬ mayL p e v) :
    Calls Tryd.prog 25 #[.int .u8 p, .int .u64 e, .int .i64 v] w fun r w' => r = .returned (.pointer none) ∧ w = w' := by
  have HH := Lib.hid h
  clear h
  go_enter Tryd.func25, Tryd.ntmps25
  go_wp2
  all_goals first
    | (go_ret
       exact ⟨rfl, rfl⟩)
    | (exfalso
       refine HH.out ?_
       unfold mayL
       try simp only [beq_iff_eq, beq_eq_false_iff_ne, ne_eq] at *
       omega)
set_option maxRecDepth 100000 in
theorem rmayl_any (p e : Nat) (v : Int) (w : World) :
    Calls Tryd.prog 35 #[.int .u8 p, .int .u64 e, .int .i64 v] w fun r w' => r = .returned (.bool (decide (mayL p e v))) ∧ w = w' := by
  obtain ⟨X, hX⟩ : ∃ X, X = decide (mayL p e v) := ⟨_, rfl⟩
  rw [← hX]
  by_cases h1 : p ≤ 1
  · by_cases h2 : 1 ≤ e
    · by_cases h3 : 1 ≤ v
      · by_cases h4 : v ≤ 16
        · have HX := Lib.hid (show X = true from hX.trans (decide_eq_true ⟨h1, h2, h3, h4⟩))
          clear hX
          go_enter Tryd.func35, Tryd.ntmps35
          go_wp2
          go_ret
          refine ⟨?_, rfl⟩
          rw [HX.out]
          first | rfl | simp [h1] | simp [h2] | simp [h3] | simp [h4]
        · have HX := Lib.hid (show X = false from hX.trans (decide_eq_false fun h => h4 h.2.2.2))
          clear hX
          go_enter Tryd.func35, Tryd.ntmps35
          go_wp2
          go_ret
          refine ⟨?_, rfl⟩
          rw [HX.out]
          first | rfl | simp [h1] | simp [h2] | simp [h3] | simp [h4]
      · have HX := Lib.hid (show X = false from hX.trans (decide_eq_false fun h => h3 h.2.2.1))
        clear hX
        go_enter Tryd.func35, Tryd.ntmps35
        go_wp2
        go_ret
        refine ⟨?_, rfl⟩
        rw [HX.out]
        first | rfl | simp [h1] | simp [h2] | simp [h3] | simp [h4]
    · have HX := Lib.hid (show X = false from hX.trans (decide_eq_false fun h => h2 h.2.1))
      clear hX
      go_enter Tryd.func35, Tryd.ntmps35
      go_wp2
      go_ret
      refine ⟨?_, rfl⟩
      rw [HX.out]
      first | rfl | simp [h1] | simp [h2] | simp [h3] | simp [h4]
  · have HX := Lib.hid (show X = false from hX.trans (decide_eq_false fun h => h1 h.1))
    clear hX
    go_enter Tryd.func35, Tryd.ntmps35
    go_wp2
    go_ret
    refine ⟨?_, rfl⟩
    rw [HX.out]
    first | rfl | simp [h1] | simp [h2] | simp [h3] | simp [h4]
set_option maxRecDepth 100000 in
theorem rnew_any (p e v : Nat) (w : World) (hv : v ≤ 16) :
    Calls Tryd.prog 36 #[.int .u8 p, .int .u64 e, .int .i64 v] w fun r w' => r = .returned (.pointer (some ⟨w.heap.size, 0, none⟩)) ∧ Blk w' w.heap.size (rlc (L.make p e v)) RL ∧ Below w.heap.size w w' := by
  have t5 : IntKind.u64.wrap (v : Int) = (v : Int) := IntWalk.u64_in _ (by omega)
  have HB := Lib.hid (heap_alloc_new w (.cells (rlc (L.make p e v)) RL))
  go_enter Tryd.func36, Tryd.ntmps36
  go_wp2
  go_ret
  exact ⟨rfl, HB.out, (Below.refl _ w).alloc (Nat.le_refl _) _⟩
set_option maxRecDepth 100000 in
theorem greater_any (a b : Nat) (w : World) :
    Calls Tryd.prog 107 #[.int .u64 a, .int .u64 b] w fun r w' => r = .returned (.int .u64 (max a b : Nat)) ∧ w = w' := by
  obtain ⟨X, hX⟩ : ∃ X, X = max a b := ⟨_, rfl⟩
  rw [← hX]
  by_cases h : b < a
  · obtain rfl : X = a := by omega
    clear hX
    go_enter Tryd.func107, Tryd.ntmps107
    go_wp2
    go_ret
    exact ⟨rfl, rfl⟩
  · obtain rfl : X = b := by omega
    clear hX
    go_enter Tryd.func107, Tryd.ntmps107
    go_wp2
    go_ret
    exact ⟨rfl, rfl⟩
set_option maxRecDepth 100000 in
set_option maxHeartbeats 1000000 in
theorem hdr_any (l : L) (kd : Int) (c g : Nat) (w : World) (hg : Blk w g (lc l) LT) (hl : l.wf) :
    Calls Tryd.prog 40 #[.pointer (some ⟨g, 0, none⟩), .int .i64 kd, .int .u64 c] w fun r w' => r = .returned (.agg (pc (l.hdr kd c) nS nS)) ∧ Below w.heap.size w w' := by
  have hb1 : Blk (w.alloc (.cells (pc K.zero nS nS) 26)) g (lc l) LT := hg.alloc _
  have hn1 : Blk (w.alloc (.cells (pc K.zero nS nS) 26)) w.heap.size (pc K.zero nS nS) 26 := heap_alloc_new w _
  have HK := Lib.hid (bel_new w (.cells (pc K.zero nS nS) 26))
  have hli := hg.lt
  have c6 : (w.alloc (.cells (pc K.zero nS nS) 26)).cell? ⟨g, 6, none⟩ = some (.int .u64 l.every) := hb1.cell _ rfl
  have hev : 0 < l.every := hl.every
  have HIS := Lib.hid (is_any l g _ hb1 hl)
  clear hl
  go_enter Tryd.func40, Tryd.ntmps40
  go_wp2_with fail
  refine HIS.out.mono ?_
  rintro r w' ⟨rfl, rfl⟩
  go_upto_region 3 with fail
  change Code.wp _ _ _ _ (w.alloc (.cells (pc K.zero nS nS) 26))
  generalize w.alloc (.cells (pc K.zero nS nS) 26) = w1 at *
  refine Draw.wp_region_prefix 16 (fun W => Below w1.heap.size w1 W) (fun W W' => Below W.heap.size W W') (fun i W vv => match i with
      | 0 => vv = .int .i64 kd
      | 1 => vv = .pointer (some ⟨g, 0, none⟩)
      | 2 => vv = .pointer (some ⟨g, 0, none⟩)
      | 3 => vv = .pointer (some ⟨g, 4, none⟩)
      | 4 => vv = .int .u8 l.player
      | 5 => vv = .pointer (some ⟨g, 0, none⟩)
      | 6 => vv = .pointer (some ⟨g, 0, none⟩)
      | 7 => vv = .pointer (some ⟨g, 5, none⟩)
      | 8 => vv = .int .u64 l.own
      | 9 => vv = .pointer (some ⟨g, 0, none⟩)
      | 10 => vv = .pointer (some ⟨g, 0, none⟩)
      | 11 => vv = .pointer (some ⟨g, 0, none⟩)
      | 12 => vv = .pointer (some ⟨g, 0, none⟩)
      | 13 => vv = .int .u64 l.epoch
      | 14 => vv = .int .u64 c
      | _ => vv = .agg (pc (l.hdr kd c) nS nS)) (by kernel_rfl) (by kernel_rfl) (by decide) rfl (by decide) (by decide) (by decide) ?_ (Below.refl _ _).drew ?_ [11, 12, 13, 14, 15, 16, 17, 18, 19, 20, 21, 22, 23, 24, 25, 26] (by rfl) 1 (by rfl) ?_
  · intro i W W' vv he hf
    exact hf
  · refine ⟨?_, ?_, ?_, ?_, ?_, ?_, ?_, ?_, ?_, ?_, ?_, ?_, ?_, ?_, ?_, ?_, trivial⟩
    all_goals intro ρ W hJ hc hf hKn
    · refine Draw.Goes.plain rfl ?_
      exact Draw.Runs.value (w' := W) (v := ρ (.tmp 1)) rfl ⟨hJ, Below.refl _ _, hKn.1.2 1 rfl⟩
    · refine Draw.Goes.plain rfl ?_
      exact Draw.Runs.value (w' := W) (v := ρ (.tmp 0)) rfl ⟨hJ, Below.refl _ _, hKn.1.2 0 rfl⟩
    · refine Draw.Goes.plain rfl ?_
      have h0 : ρ (.tmp 12) = .pointer (some ⟨g, 0, none⟩) := hKn.1.get 1 12 rfl rfl
      refine Draw.Runs.value (w' := W) (v := .pointer (some ⟨g, 0, none⟩)) ?_ ⟨hJ, Below.refl _ _, rfl⟩
      simp only [execOp]; go_simp
    · refine Draw.Goes.plain rfl ?_
      have h0 : ρ (.tmp 13) = .pointer (some ⟨g, 0, none⟩) := hKn.1.get 2 13 rfl rfl
      refine Draw.Runs.value (w' := W) (v := .pointer (some ⟨g, 4, none⟩)) ?_ ⟨hJ, Below.refl _ _, rfl⟩
      simp only [execOp]; go_simp
    · refine Draw.Goes.plain rfl ?_
      have h0 : ρ (.tmp 14) = .pointer (some ⟨g, 4, none⟩) := hKn.1.get 3 14 rfl rfl
      have c : W.cell? ⟨g, 4, none⟩ = some (.int .u8 l.player) := Blk.cell (W := W) ((hJ.block _ hb1.lt).trans hb1) _ rfl
      refine Draw.Runs.value (w' := W) (v := .int .u8 l.player) ?_ ⟨hJ, Below.refl _ _, rfl⟩
      simp only [execOp]; go_simp
    · refine Draw.Goes.plain rfl ?_
      exact Draw.Runs.value (w' := W) (v := ρ (.tmp 0)) rfl ⟨hJ, Below.refl _ _, hKn.1.2 0 rfl⟩
    · refine Draw.Goes.plain rfl ?_
      have h0 : ρ (.tmp 16) = .pointer (some ⟨g, 0, none⟩) := hKn.1.get 5 16 rfl rfl
      refine Draw.Runs.value (w' := W) (v := .pointer (some ⟨g, 0, none⟩)) ?_ ⟨hJ, Below.refl _ _, rfl⟩
      simp only [execOp]; go_simp
    · refine Draw.Goes.plain rfl ?_
      have h0 : ρ (.tmp 17) = .pointer (some ⟨g, 0, none⟩) := hKn.1.get 6 17 rfl rfl
      refine Draw.Runs.value (w' := W) (v := .pointer (some ⟨g, 5, none⟩)) ?_ ⟨hJ, Below.refl _ _, rfl⟩
      simp only [execOp]; go_simp
    · refine Draw.Goes.plain rfl ?_
      have h0 : ρ (.tmp 18) = .pointer (some ⟨g, 5, none⟩) := hKn.1.get 7 18 rfl rfl
      have c : W.cell? ⟨g, 5, none⟩ = some (.int .u64 l.own) := Blk.cell (W := W) ((hJ.block _ hb1.lt).trans hb1) _ rfl
      refine Draw.Runs.value (w' := W) (v := .int .u64 l.own) ?_ ⟨hJ, Below.refl _ _, rfl⟩
      simp only [execOp]; go_simp
    · refine Draw.Goes.plain rfl ?_
      exact Draw.Runs.value (w' := W) (v := ρ (.tmp 0)) rfl ⟨hJ, Below.refl _ _, hKn.1.2 0 rfl⟩
    · refine Draw.Goes.plain rfl ?_
      have h0 : ρ (.tmp 20) = .pointer (some ⟨g, 0, none⟩) := hKn.1.get 9 20 rfl rfl
      refine Draw.Runs.value (w' := W) (v := .pointer (some ⟨g, 0, none⟩)) ?_ ⟨hJ, Below.refl _ _, rfl⟩
      simp only [execOp]; go_simp
    · refine Draw.Goes.plain rfl ?_
      have h0 : ρ (.tmp 21) = .pointer (some ⟨g, 0, none⟩) := hKn.1.get 10 21 rfl rfl
      refine Draw.Runs.value (w' := W) (v := .pointer (some ⟨g, 0, none⟩)) ?_ ⟨hJ, Below.refl _ _, rfl⟩
      simp only [execOp]; go_simp
    · refine Draw.Goes.plain rfl ?_
      have h0 : ρ (.tmp 22) = .pointer (some ⟨g, 0, none⟩) := hKn.1.get 11 22 rfl rfl
      refine Draw.Runs.value (w' := W) (v := .pointer (some ⟨g, 0, none⟩)) ?_ ⟨hJ, Below.refl _ _, rfl⟩
      simp only [execOp]; go_simp
    · refine Draw.Goes.plain rfl ?_
      have h0 : ρ (.tmp 23) = .pointer (some ⟨g, 0, none⟩) := hKn.1.get 12 23 rfl rfl
      have c : W.cell? ⟨g, 0, none⟩ = some (.int .u64 l.epoch) := Blk.cell (W := W) ((hJ.block _ hb1.lt).trans hb1) _ rfl
      refine Draw.Runs.value (w' := W) (v := .int .u64 l.epoch) ?_ ⟨hJ, Below.refl _ _, rfl⟩
      simp only [execOp]; go_simp
    · refine Draw.Goes.plain rfl ?_
      exact Draw.Runs.value (w' := W) (v := ρ (.tmp 2)) rfl ⟨hJ, Below.refl _ _, hKn.1.2 2 rfl⟩
    · refine Draw.Goes.plain rfl ?_
      have h0 : ρ (.tmp 11) = .int .i64 kd := hKn.1.get 0 11 rfl rfl
      have h1 : ρ (.tmp 15) = .int .u8 l.player := hKn.1.get 4 15 rfl rfl
      have h2 : ρ (.tmp 19) = .int .u64 l.own := hKn.1.get 8 19 rfl rfl
      have h3 : ρ (.tmp 24) = .int .u64 l.epoch := hKn.1.get 13 24 rfl rfl
      have h4 : ρ (.tmp 25) = .int .u64 c := hKn.1.get 14 25 rfl rfl
      refine Draw.Runs.value (w' := W) (v := .agg (pc (l.hdr kd c) nS nS)) ?_ ⟨hJ, Below.refl _ _, rfl⟩
      simp only [execOp, pc, L.hdr]; go_simp
  · intro u W hJ hf
    have r26 : u 26 = .agg (pc (l.hdr kd c) nS nS) := hf 15 _ 26 (by decide) rfl rfl
    simp only [List.foldl_cons, List.foldl_nil, List.setIfInBounds_toArray, List.set_cons_succ, List.set_cons_zero, r26]
    have hn2 : Blk W w.heap.size (pc K.zero nS nS) 26 := (hJ.block _ hn1.lt).trans hn1
    have HB := Lib.hid (below_setRow (HK.out.trans (hJ.mono HK.out.size)) (Nat.le_refl _) (pc (l.hdr kd c) nS nS))
    refine Draw.wpAny_one (i := 16) (by kernel_rfl) rfl rfl ?_
    refine wp_store_row 26 (.tmp 6) (.tmp 26) rfl w.heap.size (pc (l.hdr kd c) nS nS) rfl rfl 26 _ hn2 (pc_info _ _ _) rfl (pc_all _ slnil) ?_
    refine Draw.wpAny_end (by kernel_rfl) ?_
    clear hJ hf hb1 hn1
    go_wp2
    exact bodyPost_ret (v := .agg (pc (l.hdr kd c) nS nS)) (results_cell_row rfl _ _ w.heap.size 26 (pc (l.hdr kd c) nS nS) (0, 0) _ rfl (setRow_heap _ _ _ _ _ _ hn2) Tryd.underlying26 rfl (pc_info _ _ _)) rfl ⟨rfl, HB.out⟩
set_option maxRecDepth 100000 in
set_option maxHeartbeats 1000000 in
theorem rhdr_any (l : L) (kd : Int) (c g : Nat) (w : World) (hg : Blk w g (rlc l) RL) (hl : l.wf) :
    Calls Tryd.prog 80 #[.pointer (some ⟨g, 0, none⟩), .int .i64 kd, .int .u64 c] w fun r w' => r = .returned (.agg (pc (l.hdr kd c) nS nS)) ∧ Below w.heap.size w w' := by
  have hb1 : Blk (w.alloc (.cells (pc K.zero nS nS) RPk)) g (rlc l) RL := hg.alloc _
  have hn1 : Blk (w.alloc (.cells (pc K.zero nS nS) RPk)) w.heap.size (pc K.zero nS nS) RPk := heap_alloc_new w _
  have HK := Lib.hid (bel_new w (.cells (pc K.zero nS nS) RPk))
  have hli := hg.lt
  clear hl
  go_enter Tryd.func80, Tryd.ntmps80
  go_upto_region 1 with fail
  change Code.wp _ _ _ _ (w.alloc (.cells (pc K.zero nS nS) RPk))
  generalize w.alloc (.cells (pc K.zero nS nS) RPk) = w1 at *
  refine Draw.wp_region_prefix 15 (fun W => Below w1.heap.size w1 W) (fun W W' => Below W.heap.size W W') (fun i W vv => match i with
      | 0 => vv = .int .i64 kd
      | 1 => vv = .pointer (some ⟨g, 0, none⟩)
      | 2 => vv = .pointer (some ⟨g, 0, none⟩)
      | 3 => vv = .pointer (some ⟨g, 0, none⟩)
      | 4 => vv = .int .u8 l.player
      | 5 => vv = .pointer (some ⟨g, 0, none⟩)
      | 6 => vv = .pointer (some ⟨g, 0, none⟩)
      | 7 => vv = .pointer (some ⟨g, 1, none⟩)
      | 8 => vv = .int .u64 l.own
      | 9 => vv = .pointer (some ⟨g, 0, none⟩)
      | 10 => vv = .pointer (some ⟨g, 0, none⟩)
      | 11 => vv = .pointer (some ⟨g, 3, none⟩)
      | 12 => vv = .int .u64 l.epoch
      | 13 => vv = .int .u64 c
      | _ => vv = .agg (pc (l.hdr kd c) nS nS)) (by kernel_rfl) (by kernel_rfl) (by decide) rfl (by decide) (by decide) (by decide) ?_ (Below.refl _ _).drew ?_ [7, 8, 9, 10, 11, 12, 13, 14, 15, 16, 17, 18, 19, 20, 21] (by rfl) 1 (by rfl) ?_
  · intro i W W' vv he hf
    exact hf
  · refine ⟨?_, ?_, ?_, ?_, ?_, ?_, ?_, ?_, ?_, ?_, ?_, ?_, ?_, ?_, ?_, trivial⟩
    all_goals intro ρ W hJ hc hf hKn
    · refine Draw.Goes.plain rfl ?_
      exact Draw.Runs.value (w' := W) (v := ρ (.tmp 1)) rfl ⟨hJ, Below.refl _ _, hKn.1.2 1 rfl⟩
    · refine Draw.Goes.plain rfl ?_
      exact Draw.Runs.value (w' := W) (v := ρ (.tmp 0)) rfl ⟨hJ, Below.refl _ _, hKn.1.2 0 rfl⟩
    · refine Draw.Goes.plain rfl ?_
      have h0 : ρ (.tmp 8) = .pointer (some ⟨g, 0, none⟩) := hKn.1.get 1 8 rfl rfl
      refine Draw.Runs.value (w' := W) (v := .pointer (some ⟨g, 0, none⟩)) ?_ ⟨hJ, Below.refl _ _, rfl⟩
      simp only [execOp]; go_simp
    · refine Draw.Goes.plain rfl ?_
      have h0 : ρ (.tmp 9) = .pointer (some ⟨g, 0, none⟩) := hKn.1.get 2 9 rfl rfl
      refine Draw.Runs.value (w' := W) (v := .pointer (some ⟨g, 0, none⟩)) ?_ ⟨hJ, Below.refl _ _, rfl⟩
      simp only [execOp]; go_simp
    · refine Draw.Goes.plain rfl ?_
      have h0 : ρ (.tmp 10) = .pointer (some ⟨g, 0, none⟩) := hKn.1.get 3 10 rfl rfl
      have c : W.cell? ⟨g, 0, none⟩ = some (.int .u8 l.player) := Blk.cell (W := W) ((hJ.block _ hb1.lt).trans hb1) _ rfl
      refine Draw.Runs.value (w' := W) (v := .int .u8 l.player) ?_ ⟨hJ, Below.refl _ _, rfl⟩
      simp only [execOp]; go_simp
    · refine Draw.Goes.plain rfl ?_
      exact Draw.Runs.value (w' := W) (v := ρ (.tmp 0)) rfl ⟨hJ, Below.refl _ _, hKn.1.2 0 rfl⟩
    · refine Draw.Goes.plain rfl ?_
      have h0 : ρ (.tmp 12) = .pointer (some ⟨g, 0, none⟩) := hKn.1.get 5 12 rfl rfl
      refine Draw.Runs.value (w' := W) (v := .pointer (some ⟨g, 0, none⟩)) ?_ ⟨hJ, Below.refl _ _, rfl⟩
      simp only [execOp]; go_simp
    · refine Draw.Goes.plain rfl ?_
      have h0 : ρ (.tmp 13) = .pointer (some ⟨g, 0, none⟩) := hKn.1.get 6 13 rfl rfl
      refine Draw.Runs.value (w' := W) (v := .pointer (some ⟨g, 1, none⟩)) ?_ ⟨hJ, Below.refl _ _, rfl⟩
      simp only [execOp]; go_simp
    · refine Draw.Goes.plain rfl ?_
      have h0 : ρ (.tmp 14) = .pointer (some ⟨g, 1, none⟩) := hKn.1.get 7 14 rfl rfl
      have c : W.cell? ⟨g, 1, none⟩ = some (.int .u64 l.own) := Blk.cell (W := W) ((hJ.block _ hb1.lt).trans hb1) _ rfl
      refine Draw.Runs.value (w' := W) (v := .int .u64 l.own) ?_ ⟨hJ, Below.refl _ _, rfl⟩
      simp only [execOp]; go_simp
    · refine Draw.Goes.plain rfl ?_
      exact Draw.Runs.value (w' := W) (v := ρ (.tmp 0)) rfl ⟨hJ, Below.refl _ _, hKn.1.2 0 rfl⟩
    · refine Draw.Goes.plain rfl ?_
      have h0 : ρ (.tmp 16) = .pointer (some ⟨g, 0, none⟩) := hKn.1.get 9 16 rfl rfl
      refine Draw.Runs.value (w' := W) (v := .pointer (some ⟨g, 0, none⟩)) ?_ ⟨hJ, Below.refl _ _, rfl⟩
      simp only [execOp]; go_simp
    · refine Draw.Goes.plain rfl ?_
      have h0 : ρ (.tmp 17) = .pointer (some ⟨g, 0, none⟩) := hKn.1.get 10 17 rfl rfl
      refine Draw.Runs.value (w' := W) (v := .pointer (some ⟨g, 3, none⟩)) ?_ ⟨hJ, Below.refl _ _, rfl⟩
      simp only [execOp]; go_simp
    · refine Draw.Goes.plain rfl ?_
      have h0 : ρ (.tmp 18) = .pointer (some ⟨g, 3, none⟩) := hKn.1.get 11 18 rfl rfl
      have c : W.cell? ⟨g, 3, none⟩ = some (.int .u64 l.epoch) := Blk.cell (W := W) ((hJ.block _ hb1.lt).trans hb1) _ rfl
      refine Draw.Runs.value (w' := W) (v := .int .u64 l.epoch) ?_ ⟨hJ, Below.refl _ _, rfl⟩
      simp only [execOp]; go_simp
    · refine Draw.Goes.plain rfl ?_
      exact Draw.Runs.value (w' := W) (v := ρ (.tmp 2)) rfl ⟨hJ, Below.refl _ _, hKn.1.2 2 rfl⟩
    · refine Draw.Goes.plain rfl ?_
      have h0 : ρ (.tmp 7) = .int .i64 kd := hKn.1.get 0 7 rfl rfl
      have h1 : ρ (.tmp 11) = .int .u8 l.player := hKn.1.get 4 11 rfl rfl
      have h2 : ρ (.tmp 15) = .int .u64 l.own := hKn.1.get 8 15 rfl rfl
      have h3 : ρ (.tmp 19) = .int .u64 l.epoch := hKn.1.get 12 19 rfl rfl
      have h4 : ρ (.tmp 20) = .int .u64 c := hKn.1.get 13 20 rfl rfl
      refine Draw.Runs.value (w' := W) (v := .agg (pc (l.hdr kd c) nS nS)) ?_ ⟨hJ, Below.refl _ _, rfl⟩
      simp only [execOp, pc, L.hdr]; go_simp
  · intro u W hJ hf
    have r21 : u 21 = .agg (pc (l.hdr kd c) nS nS) := hf 14 _ 21 (by decide) rfl rfl
    simp only [List.foldl_cons, List.foldl_nil, List.setIfInBounds_toArray, List.set_cons_succ, List.set_cons_zero, r21]
    have hn2 : Blk W w.heap.size (pc K.zero nS nS) RPk := (hJ.block _ hn1.lt).trans hn1
    have HB := Lib.hid (below_setRow (HK.out.trans (hJ.mono HK.out.size)) (Nat.le_refl _) (pc (l.hdr kd c) nS nS))
    refine Draw.wpAny_one (i := 15) (by kernel_rfl) rfl rfl ?_
    refine wp_store_row RPk (.tmp 6) (.tmp 21) rfl w.heap.size (pc (l.hdr kd c) nS nS) rfl rfl RPk _ hn2 (rpc_info _ _ _) rfl (pc_all _ slnil) ?_
    refine Draw.wpAny_end (by kernel_rfl) ?_
    clear hJ hf hb1 hn1
    go_wp2
    exact bodyPost_ret (v := .agg (pc (l.hdr kd c) nS nS)) (results_cell_row rfl _ _ w.heap.size RPk (pc (l.hdr kd c) nS nS) (0, 0) _ rfl (setRow_heap _ _ _ _ _ _ hn2) Tryd.underlying34 rfl (rpc_info _ _ _)) rfl ⟨rfl, HB.out⟩
set_option maxRecDepth 100000 in
theorem rsent_any (l : L) (g : Nat) (now : Nat) (w : World) (hb : Blk w g (rlc l) RL) (hl : l.wf) (hn : now < 18446744073709551616) :
    Calls Tryd.prog 77 #[.pointer (some ⟨g, 0, none⟩), .int .u64 now] w fun e w' => e = .returned (.tuple #[]) ∧ Blk w' g (rlc (l.sent now)) RL ∧ Kp w.heap.size g w w' := by
  have c7 : w.cell? ⟨g, 7, none⟩ = some (.bool l.urged) := hb.cell _ rfl
  have c8 : w.cell? ⟨g, 8, none⟩ = some (.bool l.spoke) := hb.cell _ rfl
  have c9 : w.cell? ⟨g, 9, none⟩ = some (.int .u64 l.last) := hb.cell _ rfl
  have f7 : w.frozen? ⟨g, 7, none⟩ = false := hb.free
  have f8 : w.frozen? ⟨g, 8, none⟩ = false := hb.free
  have f9 : w.frozen? ⟨g, 9, none⟩ = false := hb.free
  have hB := ((hb.set (off := 7) (.bool false)).set (off := 8) (.bool true)).set (off := 9) (.int .u64 now)
  have HB := Lib.hid hB
  have HK := Lib.hid ((((Kp.refl w.heap.size g w).setCell ⟨g, 7, none⟩ rfl (.bool false)).setCell ⟨g, 8, none⟩ rfl (.bool true)).setCell ⟨g, 9, none⟩ rfl (.int .u64 now))
  clear hB hb hl
  go_enter Tryd.func77, Tryd.ntmps77
  go_wp2
  go_end0
  exact ⟨rfl, HB.out, HK.out⟩
set_option maxRecDepth 100000 in
theorem rdue_any (l : L) (g : Nat) (now : Nat) (w : World) (hb : Blk w g (rlc l) RL) (hl : l.wf) (hn : now < 18446744073709551616) :
    Calls Tryd.prog 76 #[.pointer (some ⟨g, 0, none⟩), .int .u64 now] w fun e w' => e = .returned (.bool (l.due now)) ∧ Below w.heap.size w w' := by
  have c2 : w.cell? ⟨g, 2, none⟩ = some (.int .u64 l.every) := hb.cell _ rfl
  have c7 : w.cell? ⟨g, 7, none⟩ = some (.bool l.urged) := hb.cell _ rfl
  have c8 : w.cell? ⟨g, 8, none⟩ = some (.bool l.spoke) := hb.cell _ rfl
  have c9 : w.cell? ⟨g, 9, none⟩ = some (.int .u64 l.last) := hb.cell _ rfl
  have hlast := hl.last
  have hevy := hl.every
  have hevs := hl.every16
  obtain ⟨X, hX⟩ : ∃ X, X = l.due now := ⟨_, rfl⟩
  rw [← hX]
  have hY : X = (l.urged || (!l.spoke || (decide (l.last ≤ now) && decide (l.every ≤ now - l.last)))) := hX
  clear hX hb hl
  obtain ⟨epoch, count, owned, met, player, own, every, last, urged, spoke⟩ := l
  dsimp only at *
  have HX := Lib.hid hY
  clear hY
  cases urged with
  | true =>
    go_enter Tryd.func76, Tryd.ntmps76
    go_wp2
    go_ret
    exact ⟨by rw [HX.out]; rfl, Below.refl _ _⟩
  | false =>
    cases spoke with
    | false =>
      go_enter Tryd.func76, Tryd.ntmps76
      go_wp2
      go_ret
      exact ⟨by rw [HX.out]; rfl, Below.refl _ _⟩
    | true =>
      by_cases h1 : last ≤ now
      · have h1' : ¬ now < last := by omega
        have e2 : IntKind.u64.wrap ((now : Int) - (last : Int)) = ((now - last : Nat) : Int) := by rw [IntWalk.u64_in _ (by omega)]; omega
        obtain ⟨d, hd⟩ : ∃ d, d = now - last := ⟨_, rfl⟩
        rw [← hd] at e2
        by_cases h2 : every ≤ d
        · have e3 : decide (every ≤ d) = true := decide_eq_true h2
          have HH := Lib.hid (show last ≤ now ∧ every ≤ now - last from ⟨h1, by omega⟩)
          clear h1 h2 hd
          go_enter Tryd.func76, Tryd.ntmps76
          go_wp2
          go_quiet (fail)
          go_wp2
          go_ret
          exact ⟨by rw [HX.out]; simp [HH.out], bel_drewN (Below.refl _ _) _⟩
        · have e3 : decide (every ≤ d) = false := decide_eq_false h2
          have HH := Lib.hid (show ¬ every ≤ now - last by omega)
          clear h1 h2 hd
          go_enter Tryd.func76, Tryd.ntmps76
          go_wp2
          go_quiet (fail)
          go_wp2
          go_ret
          exact ⟨by rw [HX.out]; simp [HH.out], bel_drewN (Below.refl _ _) _⟩
      · have h1' : now < last := by omega
        have HH := Lib.hid h1
        clear h1
        go_enter Tryd.func76, Tryd.ntmps76
        go_wp2
        go_ret
        exact ⟨by rw [HX.out]; simp [HH.out], Below.refl _ _⟩
set_option maxRecDepth 100000 in
theorem rwin_any (l : L) (g : Nat) (a b : Nat) (w : World) (hb : Blk w g (rlc l) RL) (hl : l.wf) (ha : a < 18446744073709551616) (hbb : b < 18446744073709551616) :
    Calls Tryd.prog 79 #[.pointer (some ⟨g, 0, none⟩), .int .u64 a, .int .u64 b] w fun e w' => e = .returned (.tuple #[.int .u64 (l.first a b), .int .i64 (l.many a b)]) ∧ w = w' := by
  have c4 : w.cell? ⟨g, 4, none⟩ = some (.int .u64 l.count) := hb.cell _ rfl
  have hc := hl.count
  obtain ⟨f, hf⟩ : ∃ f, f = l.first a b := ⟨_, rfl⟩
  obtain ⟨m, hm⟩ : ∃ m, m = l.many a b := ⟨_, rfl⟩
  rw [← hf, ← hm]
  unfold L.many at hm
  unfold L.first at hf hm
  obtain ⟨x, hx⟩ : ∃ x, x = max l.count a := ⟨_, rfl⟩
  have hgr := fun W => greater_any l.count a W
  rw [← hx] at hgr
  have HGR := Lib.hid hgr
  have hxb : x < 18446744073709551616 := by omega
  have HF := Lib.hid (show f = min b x by omega)
  have HM := Lib.hid (show m = min (b - min b x) 32 by omega)
  clear hb hl hf hm hgr hx
  go_enter Tryd.func79, Tryd.ntmps79
  go_wp2_with fail
  refine (HGR.out _).mono ?_
  rintro r w' ⟨rfl, rfl⟩
  go_wp2
  all_goals
    go_ret2
    refine ⟨ret_win ?_ ?_, rfl⟩
    · have h1 := HF.out
      show (_ : Int) = _
      omega
    · have h1 := HM.out
      show (_ : Int) = _
      omega
/-- Under way: the document's link, the packet. -/
structure Rn (w : World) (g : Nat) (l : L) (k : K) (vi vp : Value) (W : World) : Prop where
  a : Blk W g (rlc l) RL
  b : Blk W w.heap.size (pc k vi vp) RPk
  kp : Kp w.heap.size g w W
theorem Rn.call {w W W' : World} {g : Nat} {l : L} {k : K} {vi vp : Value} (h : Rn w g l k vi vp W) (hb : Below W.heap.size W W') : Rn w g l k vi vp W' :=
  ⟨(hb.block _ h.a.lt).trans h.a, (hb.block _ h.b.lt).trans h.b, h.kp.trans (Kp.of_below (hb.mono h.kp.size))⟩
theorem Rn.far {w W : World} {g : Nat} {l : L} {k : K} {vi vp : Value} (h : Rn w g l k vi vp W) (hg : g < w.heap.size) (off : Nat) (v : Value) (l' : L) (hs : (rlc l).setIfInBounds off v = rlc l') : Rn w g l' k vi vp (W.setCell ⟨g, off, none⟩ v) :=
  ⟨hs ▸ h.a.set v, far_blk h.b (by omega) _ _, h.kp.setCell ⟨g, off, none⟩ rfl _⟩
set_option maxRecDepth 100000 in
set_option maxHeartbeats 8000000 in
/-- What the document's 'Accept' answers. -/
theorem racc_any (l : L) (k : K) (vi vp : Value) (g : Nat) (w : World) (hg : Blk w g (rlc l) RL) (hl : l.wf) (hk : k.wf) (hi : ∀ W, Kp w.heap.size g w W → Ins W vi k.ins) (hp : ∀ W, Kp w.heap.size g w W → Prs W vp k.prs) :
    Calls Tryd.prog 75 #[.pointer (some ⟨g, 0, none⟩), .agg (pc k vi vp)] w fun r w' => r = .returned (.int .i64 (l.acc k).2) ∧ Blk w' g (rlc (l.acc k).1) RL ∧ Kp w.heap.size g w w' := by
  obtain ⟨bi, ci, rfl, _, _⟩ := hi w (Kp.refl _ _ _)
  obtain ⟨n, hn⟩ : ∃ n, n = k.ins.length := ⟨_, rfl⟩
  have hi' : ∀ W, Kp w.heap.size g w W → Ins W (.slice bi n ci) k.ins := fun W h => by rw [hn]; exact hi W h
  rw [← hn]
  have hU0 : Rn w g l k (.slice bi n ci) vp (w.alloc (.cells (pc k (.slice bi n ci) vp) RPk)) := ⟨hg.alloc _, heap_alloc_new w _, (Kp.refl _ _ _).alloc (Nat.le_refl _) _⟩
  have HMAY := Lib.hid (fun W (h : Kp w.heap.size g w W) => rmay_any k (.slice bi n ci) vp W hk (hi' W h) (hp W h))
  obtain ⟨A, hA⟩ : ∃ A, A = l.acc k := ⟨_, rfl⟩
  rw [← hA]
  have HA := Lib.hid hA
  have HN := Lib.hid hn
  have gl := hg.lt
  have q1 := hk.player
  have q2 := hl.player
  have q3 := hk.epoch
  have q4 := hl.epoch
  have q5 := hk.count
  have q6 := hl.count
  have q7 := hk.own
  have q8 := hl.owned
  have q9 := hk.first
  have hmi := docMay_iff k
  have HU := Lib.hid hU0
  clear hA hi hi' hp hk hl hg hU0 hn
  go_enter Tryd.func75, Tryd.ntmps75
  go_upto_region 1 with fail
  change Code.wp _ _ _ _ (w.alloc (.cells (pc k (.slice bi n ci) vp) RPk))
  generalize w.alloc (.cells (pc k (.slice bi n ci) vp) RPk) = w1 at *
  go_cut [16] (fun v wx => v = .bool (decide (¬ (k.may ∧ k.only = k) ∨ k.player = l.player)) ∧ Rn w g l k (.slice bi n ci) vp wx)
  case first =>
    cases hd : docMay k with
    | false =>
      rw [hd] at HMAY
      have HD := Lib.hid (show decide (¬ (k.may ∧ k.only = k) ∨ k.player = l.player) = true from decide_eq_true (.inl fun h => by rw [hmi.2 h] at hd; cases hd))
      clear hmi hd
      refine Draw.wp_region_frame (Rn w g l k (.slice bi n ci) vp) (fun W W' => Below W.heap.size W W') (fun i W vv => match i with
          | 0 => vv = .agg (pc k (.slice bi n ci) vp)
          | 1 => vv = .bool false
          | 2 => vv = .bool true
          | 3 => vv = .bool true
          | 4 => vv = undef
          | 5 => vv = undef
          | 6 => vv = undef
          | 7 => vv = undef
          | 8 => vv = undef
          | 9 => vv = undef
          | 10 => vv = undef
          | _ => vv = .bool true) (by kernel_rfl) (by kernel_rfl) (by decide) rfl ?_ ⟨HU.out.a, HU.out.b, HU.out.kp.drew⟩ ?_ [5, 6, 7, 8, 9, 10, 11, 12, 13, 14, 15, 16] (by rfl) ?_
      · intro i W W' vv he hf
        exact hf
      · refine ⟨?_, ?_, ?_, ?_, ?_, ?_, ?_, ?_, ?_, ?_, ?_, ?_, trivial⟩
        all_goals intro ρ W hJ hc hf hKn
        · refine Draw.Goes.plain rfl ?_
          have h0 : ρ (.tmp 3) = .pointer (some ⟨w.heap.size, 0, none⟩) := hKn.1.2 3 rfl
          refine Draw.Runs.value (w' := W) (v := .agg (pc k (.slice bi n ci) vp)) ?_ ⟨hJ, Below.refl _ _, rfl⟩
          exact Draw.load_row RPk _ rfl _ h0 RPk _ (0, 0) _ hJ.b Tryd.underlying34 rfl (rpc_info _ _ _)
        · refine Draw.Goes.plain rfl ?_
          have h0 : ρ (.tmp 5) = .agg (pc k (.slice bi n ci) vp) := hKn.1.get 0 5 rfl rfl
          refine Draw.Runs.enter (f := 60) (args := #[.agg (pc k (.slice bi n ci) vp)]) ?_ ((HMAY.out W hJ.kp).mono fun e W' ⟨he, hb⟩ => ⟨_, he, hJ.call hb, hb, rfl⟩)
          simp only [execOp]; go_simp
        · refine Draw.Goes.plain rfl ?_
          have h0 : ρ (.tmp 6) = .bool false := hKn.1.get 1 6 rfl rfl
          refine Draw.Runs.value (w' := W) (v := .bool true) ?_ ⟨hJ, Below.refl _ _, rfl⟩
          simp only [execOp]; go_simp
        · refine Draw.Goes.plain rfl ?_
          exact Draw.Runs.value (w' := W) (v := ρ (.tmp 7)) rfl ⟨hJ, Below.refl _ _, hKn.1.get 2 7 rfl rfl⟩
        · exact Draw.Goes.no 3 false 8 rfl rfl (hKn.1.get 3 8 rfl rfl) ⟨hJ, Below.refl _ _, rfl⟩
        · exact Draw.Goes.no 3 false 8 rfl rfl (hKn.1.get 3 8 rfl rfl) ⟨hJ, Below.refl _ _, rfl⟩
        · exact Draw.Goes.no 3 false 8 rfl rfl (hKn.1.get 3 8 rfl rfl) ⟨hJ, Below.refl _ _, rfl⟩
        · exact Draw.Goes.no 3 false 8 rfl rfl (hKn.1.get 3 8 rfl rfl) ⟨hJ, Below.refl _ _, rfl⟩
        · exact Draw.Goes.no 3 false 8 rfl rfl (hKn.1.get 3 8 rfl rfl) ⟨hJ, Below.refl _ _, rfl⟩
        · exact Draw.Goes.no 3 false 8 rfl rfl (hKn.1.get 3 8 rfl rfl) ⟨hJ, Below.refl _ _, rfl⟩
        · exact Draw.Goes.no 3 false 8 rfl rfl (hKn.1.get 3 8 rfl rfl) ⟨hJ, Below.refl _ _, rfl⟩
        · refine Draw.Goes.plain rfl ?_
          have h0 : ρ (.tmp 8) = .bool true := hKn.1.get 3 8 rfl rfl
          have h1 : ρ (.tmp 15) = undef := hKn.1.get 10 15 rfl rfl
          refine Draw.Runs.value (w' := W) (v := .bool true) ?_ ⟨hJ, Below.refl _ _, rfl⟩
          simp only [execOp]; go_simp
      · intro u W hJ hf
        have r16 : u 16 = .bool true := hf 11 _ 16 rfl rfl
        simp only [List.foldl_cons, List.foldl_nil, List.setIfInBounds_toArray, List.set_cons_succ, List.set_cons_zero, r16]
        have HJ := Lib.hid hJ
        clear hJ hf
        go_wp2
        go_meet
        exact ⟨by rw [HD.out], HJ.out⟩
    | true =>
      rw [hd] at HMAY
      have hgood := hmi.1 hd
      by_cases hpl : k.player = l.player
      · have e1 : ((k.player : Int) == (l.player : Int)) = true := by rw [beq_iff_eq]; omega
        have HD := Lib.hid (show decide (¬ (k.may ∧ k.only = k) ∨ k.player = l.player) = true from decide_eq_true (.inr hpl))
        clear hpl hgood hmi hd
        refine Draw.wp_region_frame (Rn w g l k (.slice bi n ci) vp) (fun W W' => Below W.heap.size W W') (fun i W vv => match i with
            | 0 => vv = .agg (pc k (.slice bi n ci) vp)
            | 1 => vv = .bool true
            | 2 => vv = .bool false
            | 3 => vv = .bool false
            | 4 => vv = .pointer (some ⟨w.heap.size, 1, none⟩)
            | 5 => vv = .int .u8 k.player
            | 6 => vv = .pointer (some ⟨g, 0, none⟩)
            | 7 => vv = .pointer (some ⟨g, 0, none⟩)
            | 8 => vv = .pointer (some ⟨g, 0, none⟩)
            | 9 => vv = .int .u8 l.player
            | 10 => vv = .bool true
            | _ => vv = .bool true) (by kernel_rfl) (by kernel_rfl) (by decide) rfl ?_ ⟨HU.out.a, HU.out.b, HU.out.kp.drew⟩ ?_ [5, 6, 7, 8, 9, 10, 11, 12, 13, 14, 15, 16] (by rfl) ?_
        · intro i W W' vv he hf
          exact hf
        · refine ⟨?_, ?_, ?_, ?_, ?_, ?_, ?_, ?_, ?_, ?_, ?_, ?_, trivial⟩
          all_goals intro ρ W hJ hc hf hKn
          · refine Draw.Goes.plain rfl ?_
            have h0 : ρ (.tmp 3) = .pointer (some ⟨w.heap.size, 0, none⟩) := hKn.1.2 3 rfl
            refine Draw.Runs.value (w' := W) (v := .agg (pc k (.slice bi n ci) vp)) ?_ ⟨hJ, Below.refl _ _, rfl⟩
            exact Draw.load_row RPk _ rfl _ h0 RPk _ (0, 0) _ hJ.b Tryd.underlying34 rfl (rpc_info _ _ _)
          · refine Draw.Goes.plain rfl ?_
            have h0 : ρ (.tmp 5) = .agg (pc k (.slice bi n ci) vp) := hKn.1.get 0 5 rfl rfl
            refine Draw.Runs.enter (f := 60) (args := #[.agg (pc k (.slice bi n ci) vp)]) ?_ ((HMAY.out W hJ.kp).mono fun e W' ⟨he, hb⟩ => ⟨_, he, hJ.call hb, hb, rfl⟩)
            simp only [execOp]; go_simp
          · refine Draw.Goes.plain rfl ?_
            have h0 : ρ (.tmp 6) = .bool true := hKn.1.get 1 6 rfl rfl
            refine Draw.Runs.value (w' := W) (v := .bool false) ?_ ⟨hJ, Below.refl _ _, rfl⟩
            simp only [execOp]; go_simp
          · refine Draw.Goes.plain rfl ?_
            exact Draw.Runs.value (w' := W) (v := ρ (.tmp 7)) rfl ⟨hJ, Below.refl _ _, hKn.1.get 2 7 rfl rfl⟩
          · refine Draw.Goes.yes 3 false 8 rfl rfl (hKn.1.get 3 8 rfl rfl) ?_
            have h0 : ρ (.tmp 3) = .pointer (some ⟨w.heap.size, 0, none⟩) := hKn.1.2 3 rfl
            refine Draw.Runs.value (w' := W) (v := .pointer (some ⟨w.heap.size, 1, none⟩)) ?_ ⟨hJ, Below.refl _ _, rfl⟩
            simp only [execOp]; go_simp
          · refine Draw.Goes.yes 3 false 8 rfl rfl (hKn.1.get 3 8 rfl rfl) ?_
            have h0 : ρ (.tmp 9) = .pointer (some ⟨w.heap.size, 1, none⟩) := hKn.1.get 4 9 rfl rfl
            have c : W.cell? ⟨w.heap.size, 1, none⟩ = some (.int .u8 k.player) := Blk.cell (W := W) hJ.b _ rfl
            refine Draw.Runs.value (w' := W) (v := .int .u8 k.player) ?_ ⟨hJ, Below.refl _ _, rfl⟩
            simp only [execOp]; go_simp
          · refine Draw.Goes.yes 3 false 8 rfl rfl (hKn.1.get 3 8 rfl rfl) ?_
            exact Draw.Runs.value (w' := W) (v := ρ (.tmp 0)) rfl ⟨hJ, Below.refl _ _, hKn.1.2 0 rfl⟩
          · refine Draw.Goes.yes 3 false 8 rfl rfl (hKn.1.get 3 8 rfl rfl) ?_
            have h0 : ρ (.tmp 11) = .pointer (some ⟨g, 0, none⟩) := hKn.1.get 6 11 rfl rfl
            refine Draw.Runs.value (w' := W) (v := .pointer (some ⟨g, 0, none⟩)) ?_ ⟨hJ, Below.refl _ _, rfl⟩
            simp only [execOp]; go_simp
          · refine Draw.Goes.yes 3 false 8 rfl rfl (hKn.1.get 3 8 rfl rfl) ?_
            have h0 : ρ (.tmp 12) = .pointer (some ⟨g, 0, none⟩) := hKn.1.get 7 12 rfl rfl
            refine Draw.Runs.value (w' := W) (v := .pointer (some ⟨g, 0, none⟩)) ?_ ⟨hJ, Below.refl _ _, rfl⟩
            simp only [execOp]; go_simp
          · refine Draw.Goes.yes 3 false 8 rfl rfl (hKn.1.get 3 8 rfl rfl) ?_
            have h0 : ρ (.tmp 13) = .pointer (some ⟨g, 0, none⟩) := hKn.1.get 8 13 rfl rfl
            have c : W.cell? ⟨g, 0, none⟩ = some (.int .u8 l.player) := Blk.cell (W := W) hJ.a _ rfl
            refine Draw.Runs.value (w' := W) (v := .int .u8 l.player) ?_ ⟨hJ, Below.refl _ _, rfl⟩
            simp only [execOp]; go_simp
          · refine Draw.Goes.yes 3 false 8 rfl rfl (hKn.1.get 3 8 rfl rfl) ?_
            have h0 : ρ (.tmp 10) = .int .u8 k.player := hKn.1.get 5 10 rfl rfl
            have h1 : ρ (.tmp 14) = .int .u8 l.player := hKn.1.get 9 14 rfl rfl
            refine Draw.Runs.value (w' := W) (v := .bool true) ?_ ⟨hJ, Below.refl _ _, rfl⟩
            simp only [execOp]; go_simp
          · refine Draw.Goes.plain rfl ?_
            have h0 : ρ (.tmp 8) = .bool false := hKn.1.get 3 8 rfl rfl
            have h1 : ρ (.tmp 15) = .bool true := hKn.1.get 10 15 rfl rfl
            refine Draw.Runs.value (w' := W) (v := .bool true) ?_ ⟨hJ, Below.refl _ _, rfl⟩
            simp only [execOp]; go_simp
        · intro u W hJ hf
          have r16 : u 16 = .bool true := hf 11 _ 16 rfl rfl
          simp only [List.foldl_cons, List.foldl_nil, List.setIfInBounds_toArray, List.set_cons_succ, List.set_cons_zero, r16]
          have HJ := Lib.hid hJ
          clear hJ hf
          go_wp2
          go_meet
          exact ⟨by rw [HD.out], HJ.out⟩
      · have e1 : ((k.player : Int) == (l.player : Int)) = false := by rw [beq_eq_false_iff_ne]; omega
        have HD := Lib.hid (show decide (¬ (k.may ∧ k.only = k) ∨ k.player = l.player) = false from decide_eq_false (by rintro (h | h); exact h hgood; exact hpl h))
        clear hpl hgood hmi hd
        refine Draw.wp_region_frame (Rn w g l k (.slice bi n ci) vp) (fun W W' => Below W.heap.size W W') (fun i W vv => match i with
            | 0 => vv = .agg (pc k (.slice bi n ci) vp)
            | 1 => vv = .bool true
            | 2 => vv = .bool false
            | 3 => vv = .bool false
            | 4 => vv = .pointer (some ⟨w.heap.size, 1, none⟩)
            | 5 => vv = .int .u8 k.player
            | 6 => vv = .pointer (some ⟨g, 0, none⟩)
            | 7 => vv = .pointer (some ⟨g, 0, none⟩)
            | 8 => vv = .pointer (some ⟨g, 0, none⟩)
            | 9 => vv = .int .u8 l.player
            | 10 => vv = .bool false
            | _ => vv = .bool false) (by kernel_rfl) (by kernel_rfl) (by decide) rfl ?_ ⟨HU.out.a, HU.out.b, HU.out.kp.drew⟩ ?_ [5, 6, 7, 8, 9, 10, 11, 12, 13, 14, 15, 16] (by rfl) ?_
        · intro i W W' vv he hf
          exact hf
        · refine ⟨?_, ?_, ?_, ?_, ?_, ?_, ?_, ?_, ?_, ?_, ?_, ?_, trivial⟩
          all_goals intro ρ W hJ hc hf hKn
          · refine Draw.Goes.plain rfl ?_
            have h0 : ρ (.tmp 3) = .pointer (some ⟨w.heap.size, 0, none⟩) := hKn.1.2 3 rfl
            refine Draw.Runs.value (w' := W) (v := .agg (pc k (.slice bi n ci) vp)) ?_ ⟨hJ, Below.refl _ _, rfl⟩
            exact Draw.load_row RPk _ rfl _ h0 RPk _ (0, 0) _ hJ.b Tryd.underlying34 rfl (rpc_info _ _ _)
          · refine Draw.Goes.plain rfl ?_
            have h0 : ρ (.tmp 5) = .agg (pc k (.slice bi n ci) vp) := hKn.1.get 0 5 rfl rfl
            refine Draw.Runs.enter (f := 60) (args := #[.agg (pc k (.slice bi n ci) vp)]) ?_ ((HMAY.out W hJ.kp).mono fun e W' ⟨he, hb⟩ => ⟨_, he, hJ.call hb, hb, rfl⟩)
            simp only [execOp]; go_simp
          · refine Draw.Goes.plain rfl ?_
            have h0 : ρ (.tmp 6) = .bool true := hKn.1.get 1 6 rfl rfl
            refine Draw.Runs.value (w' := W) (v := .bool false) ?_ ⟨hJ, Below.refl _ _, rfl⟩
            simp only [execOp]; go_simp
          · refine Draw.Goes.plain rfl ?_
            exact Draw.Runs.value (w' := W) (v := ρ (.tmp 7)) rfl ⟨hJ, Below.refl _ _, hKn.1.get 2 7 rfl rfl⟩
          · refine Draw.Goes.yes 3 false 8 rfl rfl (hKn.1.get 3 8 rfl rfl) ?_
            have h0 : ρ (.tmp 3) = .pointer (some ⟨w.heap.size, 0, none⟩) := hKn.1.2 3 rfl
            refine Draw.Runs.value (w' := W) (v := .pointer (some ⟨w.heap.size, 1, none⟩)) ?_ ⟨hJ, Below.refl _ _, rfl⟩
            simp only [execOp]; go_simp
          · refine Draw.Goes.yes 3 false 8 rfl rfl (hKn.1.get 3 8 rfl rfl) ?_
            have h0 : ρ (.tmp 9) = .pointer (some ⟨w.heap.size, 1, none⟩) := hKn.1.get 4 9 rfl rfl
            have c : W.cell? ⟨w.heap.size, 1, none⟩ = some (.int .u8 k.player) := Blk.cell (W := W) hJ.b _ rfl
            refine Draw.Runs.value (w' := W) (v := .int .u8 k.player) ?_ ⟨hJ, Below.refl _ _, rfl⟩
            simp only [execOp]; go_simp
          · refine Draw.Goes.yes 3 false 8 rfl rfl (hKn.1.get 3 8 rfl rfl) ?_
            exact Draw.Runs.value (w' := W) (v := ρ (.tmp 0)) rfl ⟨hJ, Below.refl _ _, hKn.1.2 0 rfl⟩
          · refine Draw.Goes.yes 3 false 8 rfl rfl (hKn.1.get 3 8 rfl rfl) ?_
            have h0 : ρ (.tmp 11) = .pointer (some ⟨g, 0, none⟩) := hKn.1.get 6 11 rfl rfl
            refine Draw.Runs.value (w' := W) (v := .pointer (some ⟨g, 0, none⟩)) ?_ ⟨hJ, Below.refl _ _, rfl⟩
            simp only [execOp]; go_simp
          · refine Draw.Goes.yes 3 false 8 rfl rfl (hKn.1.get 3 8 rfl rfl) ?_
            have h0 : ρ (.tmp 12) = .pointer (some ⟨g, 0, none⟩) := hKn.1.get 7 12 rfl rfl
            refine Draw.Runs.value (w' := W) (v := .pointer (some ⟨g, 0, none⟩)) ?_ ⟨hJ, Below.refl _ _, rfl⟩
            simp only [execOp]; go_simp
          · refine Draw.Goes.yes 3 false 8 rfl rfl (hKn.1.get 3 8 rfl rfl) ?_
            have h0 : ρ (.tmp 13) = .pointer (some ⟨g, 0, none⟩) := hKn.1.get 8 13 rfl rfl
            have c : W.cell? ⟨g, 0, none⟩ = some (.int .u8 l.player) := Blk.cell (W := W) hJ.a _ rfl
            refine Draw.Runs.value (w' := W) (v := .int .u8 l.player) ?_ ⟨hJ, Below.refl _ _, rfl⟩
            simp only [execOp]; go_simp
          · refine Draw.Goes.yes 3 false 8 rfl rfl (hKn.1.get 3 8 rfl rfl) ?_
            have h0 : ρ (.tmp 10) = .int .u8 k.player := hKn.1.get 5 10 rfl rfl
            have h1 : ρ (.tmp 14) = .int .u8 l.player := hKn.1.get 9 14 rfl rfl
            refine Draw.Runs.value (w' := W) (v := .bool false) ?_ ⟨hJ, Below.refl _ _, rfl⟩
            simp only [execOp]; go_simp
          · refine Draw.Goes.plain rfl ?_
            have h0 : ρ (.tmp 8) = .bool false := hKn.1.get 3 8 rfl rfl
            have h1 : ρ (.tmp 15) = .bool false := hKn.1.get 10 15 rfl rfl
            refine Draw.Runs.value (w' := W) (v := .bool false) ?_ ⟨hJ, Below.refl _ _, rfl⟩
            simp only [execOp]; go_simp
        · intro u W hJ hf
          have r16 : u 16 = .bool false := hf 11 _ 16 rfl rfl
          simp only [List.foldl_cons, List.foldl_nil, List.setIfInBounds_toArray, List.set_cons_succ, List.set_cons_zero, r16]
          have HJ := Lib.hid hJ
          clear hJ hf
          go_wp2
          go_meet
          exact ⟨by rw [HD.out], HJ.out⟩
  case rest =>
  obtain ⟨rfl, hU2⟩ := hcut
  clear HU HMAY hmi
  by_cases hbad : ¬ (k.may ∧ k.only = k) ∨ k.player = l.player
  · obtain rfl : A = (l, 4) := HA.out.trans (if_pos hbad)
    rw [decide_eq_true hbad]
    have HU := Lib.hid hU2
    clear hbad hU2
    go_wp2
    go_ret
    exact ⟨rfl, HU.out.a, HU.out.kp⟩
  rw [decide_eq_false hbad]
  have HA2 := HA.out.trans (if_neg hbad)
  have hgood : k.may ∧ k.only = k := Classical.not_not.1 fun h => hbad (.inl h)
  have hfirst := hgood.1.2.2.2.2.2.2.2.2.1
  have hlen := hgood.1.2.2.2.2.2.2.2.1
  rw [← HN.out] at hfirst hlen
  have HAA := Lib.hid HA2
  clear hbad HA HA2 hgood
  have c3 : wc.cell? ⟨g, 3, none⟩ = some (.int .u64 l.epoch) := hU2.a.cell _ rfl
  have b2 : wc.cell? ⟨w.heap.size, 2, none⟩ = some (.int .u64 k.epoch) := hU2.b.cell _ rfl
  have HU := Lib.hid hU2
  clear hU2
  go_upto_region 3 with fail
  go_cut [23] (fun v wx => v = .bool (decide (k.epoch < l.epoch)) ∧ Rn w g l k (.slice bi n ci) vp wx)
  case first =>
    go_quiet (fail)
    go_wp2
    go_meet
    exact ⟨by first | rfl | simp, ⟨HU.out.a, HU.out.b, kp_drewN HU.out.kp _⟩⟩
  case rest =>
  obtain ⟨rfl, hU3⟩ := hcut
  clear c3 b2 HU
  by_cases h1 : k.epoch < l.epoch
  · obtain rfl : A = (l, 12) := HAA.out.trans (if_pos (.inl h1))
    rw [decide_eq_true h1]
    have HU := Lib.hid hU3
    clear h1 hU3
    go_wp2
    go_ret
    exact ⟨rfl, HU.out.a, HU.out.kp⟩
  rw [decide_eq_false h1]
  have c1 : wc.cell? ⟨g, 1, none⟩ = some (.int .u64 l.own) := hU3.a.cell _ rfl
  have b0 : wc.cell? ⟨w.heap.size, 0, none⟩ = some (.int .i64 k.kind) := hU3.b.cell _ rfl
  have b3 : wc.cell? ⟨w.heap.size, 3, none⟩ = some (.int .u64 k.dest) := hU3.b.cell _ rfl
  have HU := Lib.hid hU3
  have H1 := Lib.hid h1
  clear hU3 h1
  go_upto_region 5 with fail
  go_cut [35] (fun v wx => v = .bool (decide (k.dest ≠ l.own ∧ k.kind ≠ 1)) ∧ Rn w g l k (.slice bi n ci) vp wx)
  case first =>
    by_cases h2 : k.dest = l.own
    · have e2 : ((k.dest : Int) != (l.own : Int)) = false := by rw [bne_eq_false_iff_eq]; omega
      have HD := Lib.hid (show decide (k.dest ≠ l.own ∧ k.kind ≠ 1) = false from decide_eq_false (fun h => h.1 h2))
      clear h2
      go_quiet (fail)
      go_wp2
      go_meet
      exact ⟨by rw [HD.out], ⟨HU.out.a, HU.out.b, kp_drewN HU.out.kp _⟩⟩
    · have e2 : ((k.dest : Int) != (l.own : Int)) = true := by rw [bne_iff_ne]; omega
      by_cases h3 : k.kind = 1
      · have e3 : (k.kind != 1) = false := by rw [bne_eq_false_iff_eq]; exact h3
        have HD := Lib.hid (show decide (k.dest ≠ l.own ∧ k.kind ≠ 1) = false from decide_eq_false (fun h => h.2 h3))
        clear h2 h3
        go_quiet (fail)
        go_wp2
        go_meet
        exact ⟨by rw [HD.out], ⟨HU.out.a, HU.out.b, kp_drewN HU.out.kp _⟩⟩
      · have e3 : (k.kind != 1) = true := by rw [bne_iff_ne]; exact h3
        have HD := Lib.hid (show decide (k.dest ≠ l.own ∧ k.kind ≠ 1) = true from decide_eq_true ⟨h2, h3⟩)
        clear h2 h3
        go_quiet (fail)
        go_wp2
        go_meet
        exact ⟨by rw [HD.out], ⟨HU.out.a, HU.out.b, kp_drewN HU.out.kp _⟩⟩
  case rest =>
  obtain ⟨rfl, hU4⟩ := hcut
  clear c1 b0 b3 HU
  by_cases h2 : k.dest ≠ l.own ∧ k.kind ≠ 1
  · obtain rfl : A = (l, 12) := HAA.out.trans (if_pos (.inr h2))
    rw [decide_eq_true h2]
    have HU := Lib.hid hU4
    clear h2 hU4
    go_wp2
    go_ret
    exact ⟨rfl, HU.out.a, HU.out.kp⟩
  rw [decide_eq_false h2]
  obtain rfl : A = (l.told k, 0) := HAA.out.trans (if_neg (fun h => by rcases h with h | h; exact H1.out h; exact h2 h))
  clear h2 HAA H1
  have c3 : wc.cell? ⟨g, 3, none⟩ = some (.int .u64 l.epoch) := hU4.a.cell _ rfl
  have b2 : wc.cell? ⟨w.heap.size, 2, none⟩ = some (.int .u64 k.epoch) := hU4.b.cell _ rfl
  have HU := Lib.hid hU4
  clear hU4
  go_upto_region 7 with fail
  go_cut [42] (fun v wx => v = .bool (decide (l.epoch < k.epoch)) ∧ Rn w g l k (.slice bi n ci) vp wx)
  case first =>
    go_quiet (fail)
    go_wp2
    go_meet
    exact ⟨by first | rfl | simp, ⟨HU.out.a, HU.out.b, kp_drewN HU.out.kp _⟩⟩
  case rest =>
  obtain ⟨rfl, hU5⟩ := hcut
  clear c3 b2 HU
  obtain ⟨l1, hl1⟩ : ∃ l1 : L, l1 = { l with epoch := max l.epoch k.epoch, met := !decide (l.epoch < k.epoch) && l.met, urged := l.urged || decide (l.epoch < k.epoch) } := ⟨_, rfl⟩
  have c3 : wc.cell? ⟨g, 3, none⟩ = some (.int .u64 l.epoch) := hU5.a.cell _ rfl
  have c6 : wc.cell? ⟨g, 6, none⟩ = some (.bool l.met) := hU5.a.cell _ rfl
  have c7 : wc.cell? ⟨g, 7, none⟩ = some (.bool l.urged) := hU5.a.cell _ rfl
  have f3 : wc.frozen? ⟨g, 3, none⟩ = false := hU5.a.free
  have f6 : wc.frozen? ⟨g, 6, none⟩ = false := hU5.a.free
  have f7 : wc.frozen? ⟨g, 7, none⟩ = false := hU5.a.free
  have b2 : wc.cell? ⟨w.heap.size, 2, none⟩ = some (.int .u64 k.epoch) := hU5.b.cell _ rfl
  have HU := Lib.hid hU5
  have HL1 := Lib.hid hl1
  clear hU5 hl1
  go_upto_if 42 with fail
  go_cut [] (fun wx => Rn w g l1 k (.slice bi n ci) vp wx)
  case first =>
    by_cases h1 : l.epoch < k.epoch
    · rw [decide_eq_true h1]
      have HS := Lib.hid (((HU.out.far gl 3 (.int .u64 k.epoch) { l with epoch := k.epoch } rfl).far gl 6 (.bool false) { l with epoch := k.epoch, met := false } rfl).far gl 7 (.bool true) { l with epoch := k.epoch, met := false, urged := true } rfl)
      have HQ := Lib.hid (show l1 = { l with epoch := k.epoch, met := false, urged := true } by rw [HL1.out, decide_eq_true h1, Nat.max_eq_right (Nat.le_of_lt h1)]; simp)
      clear h1
      go_wp2
      go_meet
      rw [HQ.out]
      exact HS.out
    · rw [decide_eq_false h1]
      have HQ := Lib.hid (show l1 = l by rw [HL1.out, decide_eq_false h1, Nat.max_eq_left (Nat.le_of_not_lt h1)]; simp)
      clear h1
      go_wp2
      go_meet
      rw [HQ.out]
      exact HU.out
  case rest =>
  have hU6 := hcut
  clear hcut HU c3 c6 c7 f3 f6 f7 b2
  have hown : l1.own = l.own := by rw [HL1.out]
  have c1 : wc.cell? ⟨g, 1, none⟩ = some (.int .u64 l1.own) := hU6.a.cell _ rfl
  have b3 : wc.cell? ⟨w.heap.size, 3, none⟩ = some (.int .u64 k.dest) := hU6.b.cell _ rfl
  have HU := Lib.hid hU6
  have HOWN := Lib.hid hown
  clear hU6 hown
  obtain ⟨D, hD⟩ : ∃ D, ((k.dest : Int) == (l1.own : Int)) = D := ⟨_, rfl⟩
  go_upto_region 11 with fail
  go_cut [60] (fun v wx => v = .bool D ∧ Rn w g l1 k (.slice bi n ci) vp wx)
  case first =>
    go_quiet (fail)
    go_wp2
    go_meet
    exact ⟨by first | rfl | simp, ⟨HU.out.a, HU.out.b, kp_drewN HU.out.kp _⟩⟩
  case rest =>
  obtain ⟨rfl, hU7⟩ := hcut
  have HD := Lib.hid (show D = decide (k.dest = l.own) by
    rw [← hD, HOWN.out, Bool.eq_iff_iff]
    simp only [decide_eq_true_iff, beq_iff_eq]
    omega)
  clear c1 b3 HU hD HOWN
  obtain ⟨l2, hl2⟩ : ∃ l2 : L, l2 = { l1 with met := l1.met || D } := ⟨_, rfl⟩
  have c6 : wc.cell? ⟨g, 6, none⟩ = some (.bool l1.met) := hU7.a.cell _ rfl
  have f6 : wc.frozen? ⟨g, 6, none⟩ = false := hU7.a.free
  have HU := Lib.hid hU7
  have HL2 := Lib.hid hl2
  clear hU7 hl2
  go_upto_if 60 with fail
  go_cut [] (fun wx => Rn w g l2 k (.slice bi n ci) vp wx)
  case first =>
    cases D with
    | true =>
      have HS := Lib.hid (HU.out.far gl 6 (.bool true) l2 (by rw [HL2.out, Bool.or_true]; rfl))
      go_wp2
      go_meet
      exact HS.out
    | false =>
      have HQ := Lib.hid (show l2 = l1 by rw [HL2.out, Bool.or_false])
      go_wp2
      go_meet
      rw [HQ.out]
      exact HU.out
  case rest =>
  have hU8 := hcut
  clear hcut HU c6 f6
  obtain ⟨T, hT⟩ : ∃ T, (k.kind == 1) = T := ⟨_, rfl⟩
  have HT := Lib.hid (show T = decide (k.kind = 1) by rw [← hT, Bool.eq_iff_iff]; simp)
  obtain ⟨l3, hl3⟩ : ∃ l3 : L, l3 = { l2 with urged := l2.urged || T } := ⟨_, rfl⟩
  have b0 : wc.cell? ⟨w.heap.size, 0, none⟩ = some (.int .i64 k.kind) := hU8.b.cell _ rfl
  have c7 : wc.cell? ⟨g, 7, none⟩ = some (.bool l2.urged) := hU8.a.cell _ rfl
  have f7 : wc.frozen? ⟨g, 7, none⟩ = false := hU8.a.free
  have HU := Lib.hid hU8
  have HL3 := Lib.hid hl3
  clear hU8 hl3
  go_upto_if 66 with fail
  go_cut [] (fun wx => Rn w g l3 k (.slice bi n ci) vp wx)
  case first =>
    cases T with
    | true =>
      have HS := Lib.hid (HU.out.far gl 7 (.bool true) l3 (by rw [HL3.out, Bool.or_true]; rfl))
      go_wp2
      go_meet
      exact HS.out
    | false =>
      have HQ := Lib.hid (show l3 = l2 by rw [HL3.out, Bool.or_false])
      go_wp2
      go_meet
      rw [HQ.out]
      exact HU.out
  case rest =>
  have hU9 := hcut
  have HU := Lib.hid hU9
  clear hcut b0 c7 f7 hU9 hT
  obtain ⟨x4, hx4⟩ : ∃ x, x = max l3.count k.count := ⟨_, rfl⟩
  have hgr := fun W => greater_any l3.count k.count W
  rw [← hx4] at hgr
  have HGR := Lib.hid hgr
  obtain ⟨l4, hl4⟩ : ∃ l4 : L, l4 = { l3 with count := x4 } := ⟨_, rfl⟩
  have HL4 := Lib.hid hl4
  have HX4 := Lib.hid hx4
  clear hl4 hgr hx4
  go_upto_region 15 with fail
  go_cut [] (fun wx => Rn w g l4 k (.slice bi n ci) vp wx)
  case first =>
    refine Draw.wp_region_prefix 10 (Rn w g l3 k (.slice bi n ci) vp) (fun W W' => Below W.heap.size W W') (fun i W vv => match i with
        | 0 => vv = .pointer (some ⟨g, 0, none⟩)
        | 1 => vv = .pointer (some ⟨g, 0, none⟩)
        | 2 => vv = .pointer (some ⟨g, 0, none⟩)
        | 3 => vv = .pointer (some ⟨g, 4, none⟩)
        | 4 => vv = .int .u64 l3.count
        | 5 => vv = .pointer (some ⟨w.heap.size, 4, none⟩)
        | 6 => vv = .int .u64 k.count
        | 7 => vv = .int .u64 x4
        | 8 => vv = .pointer (some ⟨g, 0, none⟩)
        | _ => vv = .pointer (some ⟨g, 4, none⟩)) (by kernel_rfl) (by kernel_rfl) (by decide) rfl (by decide) (by decide) (by decide) ?_ ⟨HU.out.a, HU.out.b, HU.out.kp.drew⟩ ?_ [70, 71, 72, 73, 74, 75, 76, 77, 78, 79] (by rfl) 1 (by rfl) ?_
    · intro i W W' vv he hf
      exact hf
    · refine ⟨?_, ?_, ?_, ?_, ?_, ?_, ?_, ?_, ?_, ?_, trivial⟩
      all_goals intro ρ W hJ hc hf hKn
      · refine Draw.Goes.plain rfl ?_
        exact Draw.Runs.value (w' := W) (v := ρ (.tmp 0)) rfl ⟨hJ, Below.refl _ _, hKn.1.2 0 rfl⟩
      · refine Draw.Goes.plain rfl ?_
        exact Draw.Runs.value (w' := W) (v := ρ (.tmp 0)) rfl ⟨hJ, Below.refl _ _, hKn.1.2 0 rfl⟩
      · refine Draw.Goes.plain rfl ?_
        have h0 : ρ (.tmp 71) = .pointer (some ⟨g, 0, none⟩) := hKn.1.get 1 71 rfl rfl
        refine Draw.Runs.value (w' := W) (v := .pointer (some ⟨g, 0, none⟩)) ?_ ⟨hJ, Below.refl _ _, rfl⟩
        simp only [execOp]; go_simp
      · refine Draw.Goes.plain rfl ?_
        have h0 : ρ (.tmp 72) = .pointer (some ⟨g, 0, none⟩) := hKn.1.get 2 72 rfl rfl
        refine Draw.Runs.value (w' := W) (v := .pointer (some ⟨g, 4, none⟩)) ?_ ⟨hJ, Below.refl _ _, rfl⟩
        simp only [execOp]; go_simp
      · refine Draw.Goes.plain rfl ?_
        have h0 : ρ (.tmp 73) = .pointer (some ⟨g, 4, none⟩) := hKn.1.get 3 73 rfl rfl
        have c : W.cell? ⟨g, 4, none⟩ = some (.int .u64 l3.count) := Blk.cell (W := W) hJ.a _ rfl
        refine Draw.Runs.value (w' := W) (v := .int .u64 l3.count) ?_ ⟨hJ, Below.refl _ _, rfl⟩
        simp only [execOp]; go_simp
      · refine Draw.Goes.plain rfl ?_
        have h0 : ρ (.tmp 3) = .pointer (some ⟨w.heap.size, 0, none⟩) := hKn.1.2 3 rfl
        refine Draw.Runs.value (w' := W) (v := .pointer (some ⟨w.heap.size, 4, none⟩)) ?_ ⟨hJ, Below.refl _ _, rfl⟩
        simp only [execOp]; go_simp
      · refine Draw.Goes.plain rfl ?_
        have h0 : ρ (.tmp 75) = .pointer (some ⟨w.heap.size, 4, none⟩) := hKn.1.get 5 75 rfl rfl
        have c : W.cell? ⟨w.heap.size, 4, none⟩ = some (.int .u64 k.count) := Blk.cell (W := W) hJ.b _ rfl
        refine Draw.Runs.value (w' := W) (v := .int .u64 k.count) ?_ ⟨hJ, Below.refl _ _, rfl⟩
        simp only [execOp]; go_simp
      · refine Draw.Goes.plain rfl ?_
        have h0 : ρ (.tmp 74) = .int .u64 l3.count := hKn.1.get 4 74 rfl rfl
        have h1 : ρ (.tmp 76) = .int .u64 k.count := hKn.1.get 6 76 rfl rfl
        refine Draw.Runs.enter (f := 107) (args := #[.int .u64 l3.count, .int .u64 k.count]) ?_ ((HGR.out W).mono fun e W' ⟨he, hb⟩ => ⟨_, he, by subst hb; exact hJ, by subst hb; exact Below.refl _ _, rfl⟩)
        simp only [execOp]; go_simp
      · refine Draw.Goes.plain rfl ?_
        have h0 : ρ (.tmp 70) = .pointer (some ⟨g, 0, none⟩) := hKn.1.get 0 70 rfl rfl
        refine Draw.Runs.value (w' := W) (v := .pointer (some ⟨g, 0, none⟩)) ?_ ⟨hJ, Below.refl _ _, rfl⟩
        simp only [execOp]; go_simp
      · refine Draw.Goes.plain rfl ?_
        have h0 : ρ (.tmp 78) = .pointer (some ⟨g, 0, none⟩) := hKn.1.get 8 78 rfl rfl
        refine Draw.Runs.value (w' := W) (v := .pointer (some ⟨g, 4, none⟩)) ?_ ⟨hJ, Below.refl _ _, rfl⟩
        simp only [execOp]; go_simp
    · intro u W hJ hf
      have r77 : u 77 = .int .u64 x4 := hf 7 _ 77 (by decide) rfl rfl
      have r79 : u 79 = .pointer (some ⟨g, 4, none⟩) := hf 9 _ 79 (by decide) rfl rfl
      simp only [List.foldl_cons, List.foldl_nil, List.setIfInBounds_toArray, List.set_cons_succ, List.set_cons_zero, r77, r79]
      have f_ : W.frozen? ⟨g, 4, none⟩ = false := hJ.a.free
      have a_ : W.cell? ⟨g, 4, none⟩ = some (.int .u64 l3.count) := hJ.a.cell _ rfl
      refine Draw.wpAny_one (i := 10) (by kernel_rfl) rfl rfl ?_
      refine Draw.wp_skip (w' := W.setCell ⟨g, 4, none⟩ (.int .u64 x4)) (by simp only [execOp]; go_simp) ?_
      refine Draw.wpAny_end (by kernel_rfl) ?_
      have HS := Lib.hid (hJ.far gl 4 (.int .u64 x4) l4 (by rw [HL4.out]; rfl))
      clear hJ hf f_ a_
      go_wp2
      go_meet
      exact HS.out
  case rest =>
  have HU := Lib.hid hcut
  clear hcut
  obtain ⟨x5, hx5⟩ : ∃ x, x = max l4.owned k.own := ⟨_, rfl⟩
  have hgr := fun W => greater_any l4.owned k.own W
  rw [← hx5] at hgr
  have HGR := Lib.hid hgr
  obtain ⟨l5, hl5⟩ : ∃ l5 : L, l5 = { l4 with owned := x5 } := ⟨_, rfl⟩
  have HL5 := Lib.hid hl5
  have HX5 := Lib.hid hx5
  clear hl5 hgr hx5
  go_upto_region 16 with fail
  go_cut [] (fun wx => Rn w g l5 k (.slice bi n ci) vp wx)
  case first =>
    refine Draw.wp_region_prefix 10 (Rn w g l4 k (.slice bi n ci) vp) (fun W W' => Below W.heap.size W W') (fun i W vv => match i with
        | 0 => vv = .pointer (some ⟨g, 0, none⟩)
        | 1 => vv = .pointer (some ⟨g, 0, none⟩)
        | 2 => vv = .pointer (some ⟨g, 0, none⟩)
        | 3 => vv = .pointer (some ⟨g, 5, none⟩)
        | 4 => vv = .int .u64 l4.owned
        | 5 => vv = .pointer (some ⟨w.heap.size, 5, none⟩)
        | 6 => vv = .int .u64 k.own
        | 7 => vv = .int .u64 x5
        | 8 => vv = .pointer (some ⟨g, 0, none⟩)
        | _ => vv = .pointer (some ⟨g, 5, none⟩)) (by kernel_rfl) (by kernel_rfl) (by decide) rfl (by decide) (by decide) (by decide) ?_ ⟨HU.out.a, HU.out.b, HU.out.kp.drew⟩ ?_ [80, 81, 82, 83, 84, 85, 86, 87, 88, 89] (by rfl) 1 (by rfl) ?_
    · intro i W W' vv he hf
      exact hf
    · refine ⟨?_, ?_, ?_, ?_, ?_, ?_, ?_, ?_, ?_, ?_, trivial⟩
      all_goals intro ρ W hJ hc hf hKn
      · refine Draw.Goes.plain rfl ?_
        exact Draw.Runs.value (w' := W) (v := ρ (.tmp 0)) rfl ⟨hJ, Below.refl _ _, hKn.1.2 0 rfl⟩
      · refine Draw.Goes.plain rfl ?_
        exact Draw.Runs.value (w' := W) (v := ρ (.tmp 0)) rfl ⟨hJ, Below.refl _ _, hKn.1.2 0 rfl⟩
      · refine Draw.Goes.plain rfl ?_
        have h0 : ρ (.tmp 81) = .pointer (some ⟨g, 0, none⟩) := hKn.1.get 1 81 rfl rfl
        refine Draw.Runs.value (w' := W) (v := .pointer (some ⟨g, 0, none⟩)) ?_ ⟨hJ, Below.refl _ _, rfl⟩
        simp only [execOp]; go_simp
      · refine Draw.Goes.plain rfl ?_
        have h0 : ρ (.tmp 82) = .pointer (some ⟨g, 0, none⟩) := hKn.1.get 2 82 rfl rfl
        refine Draw.Runs.value (w' := W) (v := .pointer (some ⟨g, 5, none⟩)) ?_ ⟨hJ, Below.refl _ _, rfl⟩
        simp only [execOp]; go_simp
      · refine Draw.Goes.plain rfl ?_
        have h0 : ρ (.tmp 83) = .pointer (some ⟨g, 5, none⟩) := hKn.1.get 3 83 rfl rfl
        have c : W.cell? ⟨g, 5, none⟩ = some (.int .u64 l4.owned) := Blk.cell (W := W) hJ.a _ rfl
        refine Draw.Runs.value (w' := W) (v := .int .u64 l4.owned) ?_ ⟨hJ, Below.refl _ _, rfl⟩
        simp only [execOp]; go_simp
      · refine Draw.Goes.plain rfl ?_
        have h0 : ρ (.tmp 3) = .pointer (some ⟨w.heap.size, 0, none⟩) := hKn.1.2 3 rfl
        refine Draw.Runs.value (w' := W) (v := .pointer (some ⟨w.heap.size, 5, none⟩)) ?_ ⟨hJ, Below.refl _ _, rfl⟩
        simp only [execOp]; go_simp
      · refine Draw.Goes.plain rfl ?_
        have h0 : ρ (.tmp 85) = .pointer (some ⟨w.heap.size, 5, none⟩) := hKn.1.get 5 85 rfl rfl
        have c : W.cell? ⟨w.heap.size, 5, none⟩ = some (.int .u64 k.own) := Blk.cell (W := W) hJ.b _ rfl
        refine Draw.Runs.value (w' := W) (v := .int .u64 k.own) ?_ ⟨hJ, Below.refl _ _, rfl⟩
        simp only [execOp]; go_simp
      · refine Draw.Goes.plain rfl ?_
        have h0 : ρ (.tmp 84) = .int .u64 l4.owned := hKn.1.get 4 84 rfl rfl
        have h1 : ρ (.tmp 86) = .int .u64 k.own := hKn.1.get 6 86 rfl rfl
        refine Draw.Runs.enter (f := 107) (args := #[.int .u64 l4.owned, .int .u64 k.own]) ?_ ((HGR.out W).mono fun e W' ⟨he, hb⟩ => ⟨_, he, by subst hb; exact hJ, by subst hb; exact Below.refl _ _, rfl⟩)
        simp only [execOp]; go_simp
      · refine Draw.Goes.plain rfl ?_
        have h0 : ρ (.tmp 80) = .pointer (some ⟨g, 0, none⟩) := hKn.1.get 0 80 rfl rfl
        refine Draw.Runs.value (w' := W) (v := .pointer (some ⟨g, 0, none⟩)) ?_ ⟨hJ, Below.refl _ _, rfl⟩
        simp only [execOp]; go_simp
      · refine Draw.Goes.plain rfl ?_
        have h0 : ρ (.tmp 88) = .pointer (some ⟨g, 0, none⟩) := hKn.1.get 8 88 rfl rfl
        refine Draw.Runs.value (w' := W) (v := .pointer (some ⟨g, 5, none⟩)) ?_ ⟨hJ, Below.refl _ _, rfl⟩
        simp only [execOp]; go_simp
    · intro u W hJ hf
      have r87 : u 87 = .int .u64 x5 := hf 7 _ 87 (by decide) rfl rfl
      have r89 : u 89 = .pointer (some ⟨g, 5, none⟩) := hf 9 _ 89 (by decide) rfl rfl
      simp only [List.foldl_cons, List.foldl_nil, List.setIfInBounds_toArray, List.set_cons_succ, List.set_cons_zero, r87, r89]
      have f_ : W.frozen? ⟨g, 5, none⟩ = false := hJ.a.free
      have a_ : W.cell? ⟨g, 5, none⟩ = some (.int .u64 l4.owned) := hJ.a.cell _ rfl
      refine Draw.wpAny_one (i := 10) (by kernel_rfl) rfl rfl ?_
      refine Draw.wp_skip (w' := W.setCell ⟨g, 5, none⟩ (.int .u64 x5)) (by simp only [execOp]; go_simp) ?_
      refine Draw.wpAny_end (by kernel_rfl) ?_
      have HS := Lib.hid (hJ.far gl 5 (.int .u64 x5) l5 (by rw [HL5.out]; rfl))
      clear hJ hf f_ a_
      go_wp2
      go_meet
      exact HS.out
  case rest =>
  have HU := Lib.hid hcut
  obtain ⟨T3, hT3⟩ : ∃ T, (k.kind == 3) = T := ⟨_, rfl⟩
  have HT3 := Lib.hid (show T3 = decide (k.kind = 3) by rw [← hT3, Bool.eq_iff_iff]; simp)
  have b0 : wc.cell? ⟨w.heap.size, 0, none⟩ = some (.int .i64 k.kind) := hcut.b.cell _ rfl
  clear hcut
  obtain ⟨fs, hfs⟩ : ∃ fs, fs = k.first + n := ⟨_, rfl⟩
  obtain ⟨x6, hx6⟩ : ∃ x, x = max l5.owned fs := ⟨_, rfl⟩
  have hgr := fun W => greater_any l5.owned fs W
  rw [← hx6] at hgr
  have HGR := Lib.hid hgr
  obtain ⟨l6, hl6⟩ : ∃ l6 : L, l6 = if T3 = true then { l5 with owned := x6 } else l5 := ⟨_, rfl⟩
  have HL6 := Lib.hid hl6
  have HX6 := Lib.hid hx6
  have HFS := Lib.hid hfs
  have e1 : IntKind.u64.wrap (n : Int) = (n : Int) := IntWalk.u64_in _ (by omega)
  have e2 : IntKind.u64.wrap ((k.first : Int) + (n : Int)) = (fs : Int) := by rw [IntWalk.u64_in _ (by omega)]; omega
  clear hl6 hgr hx6 hfs
  go_upto_if 92 with fail
  go_cut [] (fun wx => Rn w g l6 k (.slice bi n ci) vp wx)
  case first =>
    cases T3 with
    | true =>
      have HQ := Lib.hid (show l6 = { l5 with owned := x6 } by rw [HL6.out, if_pos rfl])
      go_wp2
      refine Draw.wp_region_prefix 15 (Rn w g l5 k (.slice bi n ci) vp) (fun W W' => Below W.heap.size W W') (fun i W vv => match i with
          | 0 => vv = .pointer (some ⟨g, 0, none⟩)
          | 1 => vv = .pointer (some ⟨g, 0, none⟩)
          | 2 => vv = .pointer (some ⟨g, 0, none⟩)
          | 3 => vv = .pointer (some ⟨g, 5, none⟩)
          | 4 => vv = .int .u64 l5.owned
          | 5 => vv = .pointer (some ⟨w.heap.size, 6, none⟩)
          | 6 => vv = .int .u64 k.first
          | 7 => vv = .pointer (some ⟨w.heap.size, 7, none⟩)
          | 8 => vv = .slice bi n ci
          | 9 => vv = .int .i64 n
          | 10 => vv = .int .u64 n
          | 11 => vv = .int .u64 fs
          | 12 => vv = .int .u64 x6
          | 13 => vv = .pointer (some ⟨g, 0, none⟩)
          | _ => vv = .pointer (some ⟨g, 5, none⟩)) (by kernel_rfl) (by kernel_rfl) (by decide) rfl (by decide) (by decide) (by decide) ?_ ⟨HU.out.a, HU.out.b, HU.out.kp.drew⟩ ?_ [93, 94, 95, 96, 97, 98, 99, 100, 101, 102, 103, 104, 105, 106, 107] (by rfl) 1 (by rfl) ?_
      · intro i W W' vv he hf
        exact hf
      · refine ⟨?_, ?_, ?_, ?_, ?_, ?_, ?_, ?_, ?_, ?_, ?_, ?_, ?_, ?_, ?_, trivial⟩
        all_goals intro ρ W hJ hc hf hKn
        · refine Draw.Goes.plain rfl ?_
          exact Draw.Runs.value (w' := W) (v := ρ (.tmp 0)) rfl ⟨hJ, Below.refl _ _, hKn.1.2 0 rfl⟩
        · refine Draw.Goes.plain rfl ?_
          exact Draw.Runs.value (w' := W) (v := ρ (.tmp 0)) rfl ⟨hJ, Below.refl _ _, hKn.1.2 0 rfl⟩
        · refine Draw.Goes.plain rfl ?_
          have h0 : ρ (.tmp 94) = .pointer (some ⟨g, 0, none⟩) := hKn.1.get 1 94 rfl rfl
          refine Draw.Runs.value (w' := W) (v := .pointer (some ⟨g, 0, none⟩)) ?_ ⟨hJ, Below.refl _ _, rfl⟩
          simp only [execOp]; go_simp
        · refine Draw.Goes.plain rfl ?_
          have h0 : ρ (.tmp 95) = .pointer (some ⟨g, 0, none⟩) := hKn.1.get 2 95 rfl rfl
          refine Draw.Runs.value (w' := W) (v := .pointer (some ⟨g, 5, none⟩)) ?_ ⟨hJ, Below.refl _ _, rfl⟩
          simp only [execOp]; go_simp
        · refine Draw.Goes.plain rfl ?_
          have h0 : ρ (.tmp 96) = .pointer (some ⟨g, 5, none⟩) := hKn.1.get 3 96 rfl rfl
          have c : W.cell? ⟨g, 5, none⟩ = some (.int .u64 l5.owned) := Blk.cell (W := W) hJ.a _ rfl
          refine Draw.Runs.value (w' := W) (v := .int .u64 l5.owned) ?_ ⟨hJ, Below.refl _ _, rfl⟩
          simp only [execOp]; go_simp
        · refine Draw.Goes.plain rfl ?_
          have h0 : ρ (.tmp 3) = .pointer (some ⟨w.heap.size, 0, none⟩) := hKn.1.2 3 rfl
          refine Draw.Runs.value (w' := W) (v := .pointer (some ⟨w.heap.size, 6, none⟩)) ?_ ⟨hJ, Below.refl _ _, rfl⟩
          simp only [execOp]; go_simp
        · refine Draw.Goes.plain rfl ?_
          have h0 : ρ (.tmp 98) = .pointer (some ⟨w.heap.size, 6, none⟩) := hKn.1.get 5 98 rfl rfl
          have c : W.cell? ⟨w.heap.size, 6, none⟩ = some (.int .u64 k.first) := Blk.cell (W := W) hJ.b _ rfl
          refine Draw.Runs.value (w' := W) (v := .int .u64 k.first) ?_ ⟨hJ, Below.refl _ _, rfl⟩
          simp only [execOp]; go_simp
        · refine Draw.Goes.plain rfl ?_
          have h0 : ρ (.tmp 3) = .pointer (some ⟨w.heap.size, 0, none⟩) := hKn.1.2 3 rfl
          refine Draw.Runs.value (w' := W) (v := .pointer (some ⟨w.heap.size, 7, none⟩)) ?_ ⟨hJ, Below.refl _ _, rfl⟩
          simp only [execOp]; go_simp
        · refine Draw.Goes.plain rfl ?_
          have h0 : ρ (.tmp 100) = .pointer (some ⟨w.heap.size, 7, none⟩) := hKn.1.get 7 100 rfl rfl
          have c : W.cell? ⟨w.heap.size, 7, none⟩ = some (.slice bi n ci) := Blk.cell (W := W) hJ.b _ rfl
          refine Draw.Runs.value (w' := W) (v := .slice bi n ci) ?_ ⟨hJ, Below.refl _ _, rfl⟩
          simp only [execOp]; go_simp
        · refine Draw.Goes.plain rfl ?_
          have h0 : ρ (.tmp 101) = .slice bi n ci := hKn.1.get 8 101 rfl rfl
          refine Draw.Runs.value (w' := W) (v := .int .i64 n) ?_ ⟨hJ, Below.refl _ _, rfl⟩
          simp only [execOp]; go_simp
        · refine Draw.Goes.plain rfl ?_
          have h0 : ρ (.tmp 102) = .int .i64 n := hKn.1.get 9 102 rfl rfl
          refine Draw.Runs.value (w' := W) (v := .int .u64 n) ?_ ⟨hJ, Below.refl _ _, rfl⟩
          simp only [execOp]; go_simp
        · refine Draw.Goes.plain rfl ?_
          have h0 : ρ (.tmp 99) = .int .u64 k.first := hKn.1.get 6 99 rfl rfl
          have h1 : ρ (.tmp 103) = .int .u64 n := hKn.1.get 10 103 rfl rfl
          refine Draw.Runs.value (w' := W) (v := .int .u64 fs) ?_ ⟨hJ, Below.refl _ _, rfl⟩
          simp only [execOp]; go_simp
        · refine Draw.Goes.plain rfl ?_
          have h0 : ρ (.tmp 97) = .int .u64 l5.owned := hKn.1.get 4 97 rfl rfl
          have h1 : ρ (.tmp 104) = .int .u64 fs := hKn.1.get 11 104 rfl rfl
          refine Draw.Runs.enter (f := 107) (args := #[.int .u64 l5.owned, .int .u64 fs]) ?_ ((HGR.out W).mono fun e W' ⟨he, hb⟩ => ⟨_, he, by subst hb; exact hJ, by subst hb; exact Below.refl _ _, rfl⟩)
          simp only [execOp]; go_simp
        · refine Draw.Goes.plain rfl ?_
          have h0 : ρ (.tmp 93) = .pointer (some ⟨g, 0, none⟩) := hKn.1.get 0 93 rfl rfl
          refine Draw.Runs.value (w' := W) (v := .pointer (some ⟨g, 0, none⟩)) ?_ ⟨hJ, Below.refl _ _, rfl⟩
          simp only [execOp]; go_simp
        · refine Draw.Goes.plain rfl ?_
          have h0 : ρ (.tmp 106) = .pointer (some ⟨g, 0, none⟩) := hKn.1.get 13 106 rfl rfl
          refine Draw.Runs.value (w' := W) (v := .pointer (some ⟨g, 5, none⟩)) ?_ ⟨hJ, Below.refl _ _, rfl⟩
          simp only [execOp]; go_simp
      · intro u W hJ hf
        have r105 : u 105 = .int .u64 x6 := hf 12 _ 105 (by decide) rfl rfl
        have r107 : u 107 = .pointer (some ⟨g, 5, none⟩) := hf 14 _ 107 (by decide) rfl rfl
        simp only [List.foldl_cons, List.foldl_nil, List.setIfInBounds_toArray, List.set_cons_succ, List.set_cons_zero, r105, r107]
        have f_ : W.frozen? ⟨g, 5, none⟩ = false := hJ.a.free
        have a_ : W.cell? ⟨g, 5, none⟩ = some (.int .u64 l5.owned) := hJ.a.cell _ rfl
        refine Draw.wpAny_one (i := 15) (by kernel_rfl) rfl rfl ?_
        refine Draw.wp_skip (w' := W.setCell ⟨g, 5, none⟩ (.int .u64 x6)) (by simp only [execOp]; go_simp) ?_
        refine Draw.wpAny_end (by kernel_rfl) ?_
        have HS := Lib.hid (hJ.far gl 5 (.int .u64 x6) l6 (by rw [HQ.out]; rfl))
        clear hJ hf f_ a_
        go_wp2
        go_meet
        exact HS.out
    | false =>
      have HQ := Lib.hid (show l6 = l5 by rw [HL6.out, if_neg (by decide)])
      go_wp2
      go_meet
      rw [HQ.out]
      exact HU.out
  case rest =>
  have HS := Lib.hid hcut
  have HQ := Lib.hid (show l6 = l.told k by
    rw [HL6.out, HX6.out, HFS.out, HL5.out, HX5.out, HL4.out, HX4.out, HL3.out, HL2.out, HL1.out, HT3.out, HT.out, HD.out, HN.out]
    unfold L.told
    by_cases h3 : k.kind = 3
    · rw [decide_eq_true h3, if_pos rfl, if_pos h3]
    · rw [decide_eq_false h3, if_neg (by decide), if_neg h3])
  clear hcut HU b0 e1 e2
  go_wp2
  go_ret
  exact ⟨rfl, by rw [← HQ.out]; exact HS.out.a, HS.out.kp⟩
end Go.Proofs.YtdgbililgkhjfaaDoor.Lk
