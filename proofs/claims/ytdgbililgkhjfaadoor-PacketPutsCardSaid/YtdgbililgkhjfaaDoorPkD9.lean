/- The laws PacketTakes and PacketPuts: walked. Conditions: the numbers are what their types bear, the lists lie in memory, the table. -/
import Derived.Test.YtdgbililgkhjfaaDoorPkD8
import Derived.Test.YtdgbililgkhjfaaDoorPkD6
import Derived.Test.YtdgbililgkhjfaaDoorPkN
namespace Go.Proofs.YtdgbililgkhjfaaDoor.Pk
open Go.RowKit Go.Proofs.YtdgbililgkhjfaaDoor.Crc Go.Proofs.YtdgbililgkhjfaaDoor.Codec Go.Proofs.YtdgbililgkhjfaaDoor.CrcWalk Go.Proofs.YtdgbililgkhjfaaDoor.Frame
set_option linter.unusedVariables false
set_option linter.unusedSimpArgs false
abbrev zeroR (W : World) : World := W.alloc (.cells (pc K.zero nl nl) RT)
set_option maxRecDepth 100000 in
set_option maxHeartbeats 4000000 in
/-- P21.1: the law PacketTakes. -/
theorem takes_law (s : ByteArray) (w : World) (hs : s.size ≤ maxLen) (hT : Tab w) :
    Calls Tryd.prog 4 #[.string s] w fun r w' => r = .returned (.bool true) ∧ Below w.heap.size w w' := by
  have HA := Lib.hid (fun W (h : Below w.heap.size w W) => awake_any W (tab_below hT h))
  have hs2 : s.size ≤ 9223372036854775807 := hs
  by_cases hl : s.size ≤ 6000
  case neg =>
    have hl : decide ((s.size : Int) > 6000) = true := decide_eq_true (by omega)
    clear hT hs
    go_enter Tryd.func4, Tryd.ntmps4
    go_wp2_with fail
    refine (HA.out _ (Below.refl _ _)).mono ?_
    rintro e w1 ⟨rfl, hb⟩
    go_wp2
    go_ret
    exact ⟨rfl, hb⟩
  case pos =>
    have hl : decide ((s.size : Int) > 6000) = false := decide_eq_false (by omega)
    have hta := fun W (h : Below w.heap.size w W) => take_any s W hs (tab_below hT h)
    have hra := fun W => rtake_any s W hs
    generalize pT s.data.toList = PT at *
    obtain ⟨k, E⟩ := PT
    have HTA := Lib.hid hta
    have HRA := Lib.hid hra
    have HSA := Lib.hid (fun W vi vp wi wp (h1 : Ins W vi k.ins) (h2 : Prs W vp k.prs) (h3 : Ins W wi k.ins) (h4 : Prs W wp k.prs) => rsame_any k k vi vp wi wp W h1 h2 h3 h4)
    rw [decide_eq_true (show k = k from rfl)] at HSA
    clear hta hra hT hs
    go_enter Tryd.func4, Tryd.ntmps4
    go_wp2_with fail
    refine (HTA.out _ (Below.refl _ _)).mono ?_
    rintro e w1 ⟨⟨vi, vp, rfl, hi1, hp1⟩, hb1⟩
    have hs1 := sl_of hi1 hp1
    have hn1 : Blk (zeroP w1) w1.heap.size (pc K.zero nilS nilS) PT := heap_alloc_new w1 _
    have hb2 : Below w1.heap.size w1 ((zeroP w1).setRow w1.heap.size (pc k vi vp)) := below_setRow ((Below.refl _ w1).alloc (Nat.le_refl _) _) (Nat.le_refl _) _
    have hx2 : Blk ((zeroP w1).setRow w1.heap.size (pc k vi vp)) w1.heap.size (pc k vi vp) PT := setRow_heap _ _ _ _ _ _ hn1
    have hi2 := hi1.below hb2
    have hp2 := hp1.below hb2
    have hB2 := hb1.trans (hb2.mono hb1.size)
    clear hi1 hp1 hb1 hb2 HTA
    go_wp2_with (first | (refine store_pk (.tmp 3) (.tmp 14) w1.heap.size K.zero k _ _ vi vp hs1 hn1 rfl rfl rfl rfl rfl ?_))
    refine (HRA.out _).mono ?_
    change ∀ e w', TookK _ ((zeroP w1).setRow w1.heap.size (pc k vi vp)) e w' → _
    generalize (zeroP w1).setRow w1.heap.size (pc k vi vp) = w2 at *
    rintro e w3 ⟨⟨vi3, vp3, rfl, hi3, hp3⟩, hb3⟩
    have hs3 := sl_of hi3 hp3
    have hn3 : Blk (zeroR w3) w3.heap.size (pc K.zero nl nl) RT := heap_alloc_new w3 _
    have hb4 : Below w3.heap.size w3 ((zeroR w3).setRow w3.heap.size (pc k vi3 vp3)) := below_setRow ((Below.refl _ w3).alloc (Nat.le_refl _) _) (Nat.le_refl _) _
    have hx4 : Blk ((zeroR w3).setRow w3.heap.size (pc k vi3 vp3)) w3.heap.size (pc k vi3 vp3) RT := setRow_heap _ _ _ _ _ _ hn3
    have hx3 : Blk w3 w1.heap.size (pc k vi vp) PT := (hb3.block _ hx2.lt).trans hx2
    have hy4 : Blk ((zeroR w3).setRow w3.heap.size (pc k vi3 vp3)) w1.heap.size (pc k vi vp) PT := (hb4.block _ hx3.lt).trans hx3
    have hi4 := (hi2.below hb3).below hb4
    have hp4 := (hp2.below hb3).below hb4
    have hi4' := hi3.below hb4
    have hp4' := hp3.below hb4
    have hB4 := hB2.trans ((hb3.mono hB2.size).trans (hb4.mono (Nat.le_trans hB2.size hb3.size)))
    have HS4 := Lib.hid (HSA.out _ vi vp vi3 vp3 hi4 hp4 hi4' hp4')
    clear hi2 hp2 hi3 hp3 hi4 hp4 hi4' hp4' hb3 hb4 hB2 hx3 hx2 HRA HSA hn1 hs1
    go_wp2_with (first | (refine rstore_pk (.tmp 5) (.tmp 19) w3.heap.size K.zero k _ _ vi3 vp3 hs3 hn3 rfl rfl rfl rfl rfl ?_) | (refine load_pk (.tmp 3) w1.heap.size k vi vp hy4 rfl rfl rfl ?_) | (refine rload_pk (.tmp 5) w3.heap.size k vi3 vp3 hx4 rfl rfl rfl ?_))
    refine HS4.out.mono ?_
    rintro e w5 ⟨rfl, hb5⟩
    have hB5 := hB4.trans (hb5.mono hB4.size)
    have hEE : (E == E) = true := by simp
    clear hb5 hB4 HS4
    go_wp2_with fail
    refine (HA.out _ hB5).mono ?_
    rintro e w6 ⟨rfl, hb6⟩
    have hB6 := hB5.trans (hb6.mono hB5.size)
    clear hb6
    go_wp2
    go_ret
    exact ⟨rfl, hB6⟩
/-- Two packets in blocks of their own. -/
structure Two (w : World) (k q : K) (vi vp wi wp : Value) (W : World) : Prop where
  a : Blk W w.heap.size (pc k vi vp) PT
  b : Blk W (w.heap.size + 1) (pc q wi wp) PT
  bel : Below w.heap.size w W
theorem Two.call {w W W' : World} {k q : K} {vi vp wi wp : Value} (h : Two w k q vi vp wi wp W) (hb : Below W.heap.size W W') : Two w k q vi vp wi wp W' :=
  ⟨(hb.block _ h.a.lt).trans h.a, (hb.block _ h.b.lt).trans h.b, h.bel.trans (hb.mono (Nat.le_of_lt h.a.lt))⟩
theorem two_mk (w : World) (k q : K) (vi vp wi wp : Value) : Two w k q vi vp wi wp ((w.alloc (.cells (pc k vi vp) PT)).alloc (.cells (pc q wi wp) PT)) :=
  ⟨(heap_alloc_new w _ |> fun h => (show Blk (w.alloc (.cells (pc k vi vp) PT)) w.heap.size (pc k vi vp) PT from h).alloc _), by
    have := heap_alloc_new (w.alloc (.cells (pc k vi vp) PT)) (.cells (pc q wi wp) PT)
    rw [World.size_alloc] at this
    exact this, ((Below.refl _ w).alloc (Nat.le_refl _) _).alloc (by simp) _⟩
set_option maxRecDepth 100000 in
set_option maxHeartbeats 4000000 in
theorem puts_few (k q : K) (vi vp wi wp : Value) (w : World) (hk : k.wf) (hq : q.wf) (hT : Tab w) (hi : Ins w vi k.ins) (hp : Prs w vp k.prs) (hi' : Ins w wi q.ins) (hp' : Prs w wp q.prs) (hn : (k.ins.length ≤ 200 ∧ k.prs.length ≤ 200) ∧ (q.ins.length ≤ 200 ∧ q.prs.length ≤ 200)) :
    Calls Tryd.prog 3 #[.agg (pc k vi vp), .agg (pc q wi wp)] w fun r w' => r = .returned (.bool true) ∧ Below w.heap.size w w' := by
  have HA := Lib.hid (fun W (h : Below w.heap.size w W) => awake_any W (tab_below hT h))
  obtain ⟨b, c, hvi, _⟩ := id hi
  obtain ⟨b', c', hvp, _⟩ := id hp
  obtain ⟨d, e, hwi, _⟩ := id hi'
  obtain ⟨d', e', hwp, _⟩ := id hp'
  have hF := fun W => few_any k b b' k.ins.length k.prs.length c c' W
  rw [decide_eq_true hn.1, ← hvi, ← hvp] at hF
  have hG := fun W => few_any q d d' q.ins.length q.prs.length e e' W
  rw [decide_eq_true hn.2, ← hwi, ← hwp] at hG
  have hP := fun W (h : Below w.heap.size w W) => put_any k vi vp W hk (hi.below h) (hp.below h) (tab_below hT h)
  have hR := fun W (h : Below w.heap.size w W) => rputp_any k vi vp W hk (hi.below h) (hp.below h)
  have hS := fun W (h : Below w.heap.size w W) => same_any k q vi vp wi wp W (hi.below h) (hp.below h) (hi'.below h) (hp'.below h)
  have hU := fun W (h : Below w.heap.size w W) => rsame_any k q vi vp wi wp W (hi.below h) (hp.below h) (hi'.below h) (hp'.below h)
  generalize decide (k = q) = B at *
  generalize pPut k = PP at *
  obtain ⟨t0, E⟩ := PP
  dsimp only at hP hR
  generalize bs t0 = T at *
  have HF := Lib.hid hF
  have HG := Lib.hid hG
  have HP := Lib.hid hP
  have HR := Lib.hid hR
  have HS := Lib.hid hS
  have HU := Lib.hid hU
  have HT0 := Lib.hid (two_mk w k q vi vp wi wp)
  have hb1 := HT0.out.a
  have hb2 := HT0.out.b
  clear hF hG hP hR hS hU hi hp hi' hp' hvi hvp hwi hwp hn hT hk hq
  go_enter Tryd.func3, Tryd.ntmps3
  go_wp2_with (first | (refine load_pk (.tmp 2) w.heap.size k vi vp hb1 rfl rfl rfl ?_))
  refine (HF.out _).mono ?_
  rintro e w1 ⟨rfl, hx⟩
  have hJ1 := HT0.out.call hx
  have hb3 := hJ1.b
  clear hx hb1 hb2 HT0
  go_wp2_with (first | (refine load_pkg (.tmp 3) (w.heap.size + 1) q wi wp hb3 rfl rfl rfl ?_))
  refine (HG.out _).mono ?_
  rintro e w2 ⟨rfl, hx⟩
  have hJ2 := hJ1.call hx
  have hb4 := hJ2.a
  clear hx hJ1 hb3
  go_wp2_with (first | (refine load_pk (.tmp 2) w.heap.size k vi vp hb4 rfl rfl rfl ?_))
  refine (HP.out _ hJ2.bel).mono ?_
  rintro e w3 ⟨rfl, hx⟩
  have hJ3 := hJ2.call hx
  have hb5 := hJ3.a
  clear hx hJ2 hb4
  go_wp2_with (first | (refine load_pk (.tmp 2) w.heap.size k vi vp hb5 rfl rfl rfl ?_))
  refine (HR.out _ hJ3.bel).mono ?_
  rintro e w4 ⟨rfl, hx⟩
  have HJ := Lib.hid (hJ3.call hx)
  have hTT : (T.toList == T.toList) = true := by simp
  have hEE : (E == E) = true := by simp
  have hBB : (B == B) = true := by simp
  clear hx hJ3 hb5
  go_upto_region 5 with fail
  refine Draw.wp_region_frame (Two w k q vi vp wi wp) (fun W W' => Below W.heap.size W W') (fun i W vv => match i with
      | 0 => vv = .string T
      | 1 => vv = .string T
      | 2 => vv = .bool true
      | 3 => vv = .bool true
      | 4 => vv = .int .i64 E
      | 5 => vv = .int .i64 E
      | 6 => vv = .bool true
      | 7 => vv = .bool true
      | 8 => vv = .bool true
      | 9 => vv = .agg (pc k vi vp)
      | 10 => vv = .agg (pc q wi wp)
      | 11 => vv = .bool B
      | 12 => vv = .agg (pc k vi vp)
      | 13 => vv = .agg (pc q wi wp)
      | 14 => vv = .bool B
      | 15 => vv = .bool true
      | 16 => vv = .bool true
      | 17 => vv = .bool true
      | 18 => vv = .bool true
      | 19 => vv = .bool true
      | _ => vv = .bool true) (by kernel_rfl) (by kernel_rfl) (by decide) rfl ?_ ⟨HJ.out.a, HJ.out.b, HJ.out.bel.drew⟩ ?_ [28, 29, 30, 31, 32, 33, 34, 35, 36, 37, 38, 39, 40, 41, 42, 43, 44, 45, 46, 47, 4] (by rfl) ?_
  · intro i W W' vv he hf
    exact hf
  · refine ⟨?_, ?_, ?_, ?_, ?_, ?_, ?_, ?_, ?_, ?_, ?_, ?_, ?_, ?_, ?_, ?_, ?_, ?_, ?_, ?_, ?_, trivial⟩
    all_goals intro ρ W hJ hc hf hKn
    · refine Draw.Goes.plain rfl ?_
      exact Draw.Runs.value (w' := W) (v := ρ (.tmp 5)) rfl ⟨hJ, Below.refl _ _, hKn.1.2 5 rfl⟩
    · refine Draw.Goes.plain rfl ?_
      exact Draw.Runs.value (w' := W) (v := ρ (.tmp 7)) rfl ⟨hJ, Below.refl _ _, hKn.1.2 7 rfl⟩
    · refine Draw.Goes.plain rfl ?_
      have h0 : ρ (.tmp 28) = .string T := hKn.1.get 0 28 rfl rfl
      have h1 : ρ (.tmp 29) = .string T := hKn.1.get 1 29 rfl rfl
      refine Draw.Runs.value (w' := W) (v := .bool true) ?_ ⟨hJ, Below.refl _ _, rfl⟩
      simp only [execOp]; go_simp
    · refine Draw.Goes.plain rfl ?_
      exact Draw.Runs.value (w' := W) (v := ρ (.tmp 30)) rfl ⟨hJ, Below.refl _ _, hKn.1.get 2 30 rfl rfl⟩
    · refine Draw.Goes.yes 3 true 31 rfl rfl (hKn.1.get 3 31 rfl rfl) ?_
      exact Draw.Runs.value (w' := W) (v := ρ (.tmp 6)) rfl ⟨hJ, Below.refl _ _, hKn.1.2 6 rfl⟩
    · refine Draw.Goes.yes 3 true 31 rfl rfl (hKn.1.get 3 31 rfl rfl) ?_
      exact Draw.Runs.value (w' := W) (v := ρ (.tmp 8)) rfl ⟨hJ, Below.refl _ _, hKn.1.2 8 rfl⟩
    · refine Draw.Goes.yes 3 true 31 rfl rfl (hKn.1.get 3 31 rfl rfl) ?_
      have h0 : ρ (.tmp 32) = .int .i64 E := hKn.1.get 4 32 rfl rfl
      have h1 : ρ (.tmp 33) = .int .i64 E := hKn.1.get 5 33 rfl rfl
      refine Draw.Runs.value (w' := W) (v := .bool true) ?_ ⟨hJ, Below.refl _ _, rfl⟩
      simp only [execOp]; go_simp
    · refine Draw.Goes.plain rfl ?_
      have h0 : ρ (.tmp 31) = .bool true := hKn.1.get 3 31 rfl rfl
      have h1 : ρ (.tmp 34) = .bool true := hKn.1.get 6 34 rfl rfl
      refine Draw.Runs.value (w' := W) (v := .bool true) ?_ ⟨hJ, Below.refl _ _, rfl⟩
      simp only [execOp]; go_simp
    · refine Draw.Goes.plain rfl ?_
      exact Draw.Runs.value (w' := W) (v := ρ (.tmp 35)) rfl ⟨hJ, Below.refl _ _, hKn.1.get 7 35 rfl rfl⟩
    · refine Draw.Goes.yes 8 true 36 rfl rfl (hKn.1.get 8 36 rfl rfl) ?_
      have h0 : ρ (.tmp 2) = .pointer (some ⟨w.heap.size, 0, none⟩) := hKn.1.2 2 rfl
      refine Draw.Runs.value (w' := W) (v := .agg (pc k vi vp)) ?_ ⟨hJ, Below.refl _ _, rfl⟩
      exact Draw.load_row PT _ rfl _ h0 PT _ (0, 0) _ hJ.a Tryd.underlying26 rfl (pc_info k vi vp)
    · refine Draw.Goes.yes 8 true 36 rfl rfl (hKn.1.get 8 36 rfl rfl) ?_
      have h0 : ρ (.tmp 3) = .pointer (some ⟨w.heap.size + 1, 0, none⟩) := hKn.1.2 3 rfl
      refine Draw.Runs.value (w' := W) (v := .agg (pc q wi wp)) ?_ ⟨hJ, Below.refl _ _, rfl⟩
      exact Draw.load_row PT _ rfl _ h0 PT _ (0, 0) _ hJ.b Tryd.underlying26 rfl (pc_info q wi wp)
    · refine Draw.Goes.yes 8 true 36 rfl rfl (hKn.1.get 8 36 rfl rfl) ?_
      have h0 : ρ (.tmp 37) = .agg (pc k vi vp) := hKn.1.get 9 37 rfl rfl
      have h1 : ρ (.tmp 38) = .agg (pc q wi wp) := hKn.1.get 10 38 rfl rfl
      refine Draw.Runs.enter (f := 20) (args := #[.agg (pc k vi vp), .agg (pc q wi wp)]) ?_ ((HS.out W hJ.bel).mono fun e W' ⟨he, hb⟩ => ⟨_, he, hJ.call hb, hb, rfl⟩)
      simp only [execOp]; go_simp
    · refine Draw.Goes.yes 8 true 36 rfl rfl (hKn.1.get 8 36 rfl rfl) ?_
      have h0 : ρ (.tmp 2) = .pointer (some ⟨w.heap.size, 0, none⟩) := hKn.1.2 2 rfl
      refine Draw.Runs.value (w' := W) (v := .agg (pc k vi vp)) ?_ ⟨hJ, Below.refl _ _, rfl⟩
      exact Draw.load_row PT _ rfl _ h0 PT _ (0, 0) _ hJ.a Tryd.underlying26 rfl (pc_info k vi vp)
    · refine Draw.Goes.yes 8 true 36 rfl rfl (hKn.1.get 8 36 rfl rfl) ?_
      have h0 : ρ (.tmp 3) = .pointer (some ⟨w.heap.size + 1, 0, none⟩) := hKn.1.2 3 rfl
      refine Draw.Runs.value (w' := W) (v := .agg (pc q wi wp)) ?_ ⟨hJ, Below.refl _ _, rfl⟩
      exact Draw.load_row PT _ rfl _ h0 PT _ (0, 0) _ hJ.b Tryd.underlying26 rfl (pc_info q wi wp)
    · refine Draw.Goes.yes 8 true 36 rfl rfl (hKn.1.get 8 36 rfl rfl) ?_
      have h0 : ρ (.tmp 40) = .agg (pc k vi vp) := hKn.1.get 12 40 rfl rfl
      have h1 : ρ (.tmp 41) = .agg (pc q wi wp) := hKn.1.get 13 41 rfl rfl
      refine Draw.Runs.enter (f := 21) (args := #[.agg (pc k vi vp), .agg (pc q wi wp)]) ?_ ((HU.out W hJ.bel).mono fun e W' ⟨he, hb⟩ => ⟨_, he, hJ.call hb, hb, rfl⟩)
      simp only [execOp]; go_simp
    · refine Draw.Goes.yes 8 true 36 rfl rfl (hKn.1.get 8 36 rfl rfl) ?_
      have h0 : ρ (.tmp 39) = .bool B := hKn.1.get 11 39 rfl rfl
      have h1 : ρ (.tmp 42) = .bool B := hKn.1.get 14 42 rfl rfl
      refine Draw.Runs.value (w' := W) (v := .bool true) ?_ ⟨hJ, Below.refl _ _, rfl⟩
      simp only [execOp]; go_simp
    · refine Draw.Goes.plain rfl ?_
      have h0 : ρ (.tmp 36) = .bool true := hKn.1.get 8 36 rfl rfl
      have h1 : ρ (.tmp 43) = .bool true := hKn.1.get 15 43 rfl rfl
      refine Draw.Runs.value (w' := W) (v := .bool true) ?_ ⟨hJ, Below.refl _ _, rfl⟩
      simp only [execOp]; go_simp
    · refine Draw.Goes.plain rfl ?_
      exact Draw.Runs.value (w' := W) (v := ρ (.tmp 44)) rfl ⟨hJ, Below.refl _ _, hKn.1.get 16 44 rfl rfl⟩
    · refine Draw.Goes.yes 17 true 45 rfl rfl (hKn.1.get 17 45 rfl rfl) ?_
      refine Draw.Runs.enter (f := 17) (args := #[]) ?_ ((HA.out W hJ.bel).mono fun e W' ⟨he, hb⟩ => ⟨_, he, hJ.call hb, hb, rfl⟩)
      simp only [execOp]; go_simp
    · refine Draw.Goes.plain rfl ?_
      have h0 : ρ (.tmp 45) = .bool true := hKn.1.get 17 45 rfl rfl
      have h1 : ρ (.tmp 46) = .bool true := hKn.1.get 18 46 rfl rfl
      refine Draw.Runs.value (w' := W) (v := .bool true) ?_ ⟨hJ, Below.refl _ _, rfl⟩
      simp only [execOp]; go_simp
    · refine Draw.Goes.plain rfl ?_
      exact Draw.Runs.value (w' := W) (v := ρ (.tmp 47)) rfl ⟨hJ, Below.refl _ _, hKn.1.get 19 47 rfl rfl⟩
  · intro u W hJ hf
    have r4 : u 4 = .bool true := hf 20 _ 4 rfl rfl
    simp only [List.foldl_cons, List.foldl_nil, List.setIfInBounds_toArray, List.set_cons_succ, List.set_cons_zero, r4]
    have HB := Lib.hid hJ.bel
    clear hJ hf
    go_wp2
    go_ret
    exact ⟨rfl, HB.out⟩
set_option maxRecDepth 100000 in
set_option maxHeartbeats 4000000 in
theorem puts_many (k q : K) (b b' d d' : Option Addr) (n n' m m' c c' e e' : Nat) (w : World) (hT : Tab w) (h : ¬ ((n ≤ 200 ∧ n' ≤ 200) ∧ (m ≤ 200 ∧ m' ≤ 200))) :
    Calls Tryd.prog 3 #[.agg (pc k (.slice b n c) (.slice b' n' c')), .agg (pc q (.slice d m e) (.slice d' m' e'))] w fun r w' => r = .returned (.bool true) ∧ Below w.heap.size w w' := by
  have HA := Lib.hid (fun W (h : Below w.heap.size w W) => awake_any W (tab_below hT h))
  have HF := Lib.hid (fun W => few_any k b b' n n' c c' W)
  have HG := Lib.hid (fun W => few_any q d d' m m' e e' W)
  have HT0 := Lib.hid (two_mk w k q (.slice b n c) (.slice b' n' c') (.slice d m e) (.slice d' m' e'))
  have hb1 := HT0.out.a
  clear hT
  by_cases hf : n ≤ 200 ∧ n' ≤ 200
  · rw [decide_eq_true hf] at HF
    rw [decide_eq_false (fun h2 => h ⟨hf, h2⟩)] at HG
    clear hf h
    go_enter Tryd.func3, Tryd.ntmps3
    go_wp2_with (first | (refine load_pk (.tmp 2) w.heap.size k _ _ hb1 rfl rfl rfl ?_))
    refine (HF.out _).mono ?_
    rintro e w1 ⟨rfl, hx⟩
    have hJ1 := HT0.out.call hx
    have hb3 := hJ1.b
    clear hx hb1 HT0
    go_wp2_with (first | (refine load_pkg (.tmp 3) (w.heap.size + 1) q _ _ hb3 rfl rfl rfl ?_))
    refine (HG.out _).mono ?_
    rintro e w2 ⟨rfl, hx⟩
    have hJ2 := hJ1.call hx
    clear hx hJ1 hb3
    go_wp2_with fail
    refine (HA.out _ hJ2.bel).mono ?_
    rintro e w3 ⟨rfl, hx⟩
    have hB := hJ2.bel.trans (hx.mono hJ2.bel.size)
    clear hx hJ2
    go_wp2
    go_ret
    exact ⟨rfl, hB⟩
  · rw [decide_eq_false hf] at HF
    clear hf h
    go_enter Tryd.func3, Tryd.ntmps3
    go_wp2_with (first | (refine load_pk (.tmp 2) w.heap.size k _ _ hb1 rfl rfl rfl ?_))
    refine (HF.out _).mono ?_
    rintro e w1 ⟨rfl, hx⟩
    have hJ1 := HT0.out.call hx
    clear hx hb1 HT0
    go_wp2_with fail
    refine (HA.out _ hJ1.bel).mono ?_
    rintro e w3 ⟨rfl, hx⟩
    have hB := hJ1.bel.trans (hx.mono hJ1.bel.size)
    clear hx hJ1
    go_wp2
    go_ret
    exact ⟨rfl, hB⟩
/-- P21.1: the law PacketPuts. -/
theorem puts_law (k q : K) (b b' d d' : Option Addr) (n n' m m' c c' e e' : Nat) (w : World) (hk : k.wf) (hq : q.wf) (hT : Tab w) (hi : n ≤ 200 → Ins w (.slice b n c) k.ins) (hp : n' ≤ 200 → Prs w (.slice b' n' c') k.prs) (hi' : m ≤ 200 → Ins w (.slice d m e) q.ins) (hp' : m' ≤ 200 → Prs w (.slice d' m' e') q.prs) :
    Calls Tryd.prog 3 #[.agg (pc k (.slice b n c) (.slice b' n' c')), .agg (pc q (.slice d m e) (.slice d' m' e'))] w fun r w' => r = .returned (.bool true) ∧ Below w.heap.size w w' := by
  by_cases h : (n ≤ 200 ∧ n' ≤ 200) ∧ (m ≤ 200 ∧ m' ≤ 200)
  · have h1 := hi h.1.1
    have h2 := hp h.1.2
    have h3 := hi' h.2.1
    have h4 := hp' h.2.2
    obtain ⟨_, _, e1, _⟩ := id h1
    obtain ⟨_, _, e2, _⟩ := id h2
    obtain ⟨_, _, e3, _⟩ := id h3
    obtain ⟨_, _, e4, _⟩ := id h4
    cases e1
    cases e2
    cases e3
    cases e4
    exact puts_few k q _ _ _ _ w hk hq hT h1 h2 h3 h4 h
  · exact puts_many k q b b' d d' n n' m m' c c' e e' w hT h
end Go.Proofs.YtdgbililgkhjfaaDoor.Pk
