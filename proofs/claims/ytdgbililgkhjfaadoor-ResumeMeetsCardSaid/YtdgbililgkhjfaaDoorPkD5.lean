/- What the document's 'Payload' answers of a packet of a kind: walked. Conditions: the numbers are what their types bear, the lists lie in memory, 255 inputs and pairs at most. -/
import Derived.Test.YtdgbililgkhjfaaDoorPkD4
import Derived.Test.YtdgbililgkhjfaaDoorDrawG
import Derived.Deep.RegionWith
namespace Go.Proofs.YtdgbililgkhjfaaDoor.Pk
open Go.RowKit Go.Proofs.YtdgbililgkhjfaaDoor.Crc Go.Proofs.YtdgbililgkhjfaaDoor.Codec Go.Proofs.YtdgbililgkhjfaaDoor.Frame
set_option linter.unusedVariables false
set_option linter.unusedSimpArgs false
theorem conv_one (b : UInt8) (W : World) (g : Nat) (hc : W.cell? ⟨g, 0, none⟩ = some (.int .u8 b.toNat)) :
    (convert 47 9 (.slice (some ⟨g, 0, none⟩) 1 1)).run Tryd.prog W = .ok (.string (bs [b])) W := by
  have := conv1 b.toNat b.toNat_lt W g hc
  rwa [UInt8.ofNat_toNat] at this
theorem ret_str {a b : ByteArray} (h : a = b) : Ending.returned (.string a) = .returned (.string b) := by rw [h]
theorem flat_app : ∀ (l m : List (UInt8 × UInt8)), flat (l ++ m) = flat l ++ flat m
  | [], m => rfl
  | p :: l, m => by simp [flat, flat_app l m]
theorem flat_snoc (l : List (UInt8 × UInt8)) (j : Nat) (h : j < l.length) : flat (l.take (j + 1)) = flat (l.take j) ++ [(l[j]).1, (l[j]).2] := by
  rw [List.take_succ_eq_append_getElem h, flat_app]; rfl
set_option maxRecDepth 100000 in
set_option maxHeartbeats 4000000 in
theorem rpay_1 (player epoch dest count own first : Nat) (ins : List UInt8) (prs : List (UInt8 × UInt8)) (frame sum : Nat) (vi vp : Value) (w : World) (hk : (K.mk 1 player epoch dest count own first ins prs frame sum).wf) (hi : Ins w vi ins) (hp : Prs w vp prs) (hli : ins.length ≤ 32) (hlp : prs.length ≤ 32) :
    Calls Tryd.prog 62 #[.agg (pc (K.mk 1 player epoch dest count own first ins prs frame sum) vi vp)] w fun e w' => e = .returned (.string (bs (K.mk 1 player epoch dest count own first ins prs frame sum).pay)) ∧ Below w.heap.size w w' := by
  have hplayer : player < 256 := hk.player
  have hepoch : epoch < 18446744073709551616 := hk.epoch
  have hdest : dest < 18446744073709551616 := hk.dest
  have hcount : count < 18446744073709551616 := hk.count
  have hown : own < 18446744073709551616 := hk.own
  have Hepoch := Lib.hid (fun W => long_any epoch W hepoch)
  have Hdest := Lib.hid (fun W => long_any dest W hdest)
  have Hcount := Lib.hid (fun W => long_any count W hcount)
  have Hown := Lib.hid (fun W => long_any own W hown)
  have zepoch : (bs (leB epoch 8)).size = 8 := by rw [bs_size, leB_length]
  have zdest : (bs (leB dest 8)).size = 8 := by rw [bs_size, leB_length]
  have zcount : (bs (leB count 8)).size = 8 := by rw [bs_size, leB_length]
  have zown : (bs (leB own 8)).size = 8 := by rw [bs_size, leB_length]
  have zhead : (bs [1, UInt8.ofNat player]).size = 2 := by rw [bs_size]; rfl
  have hkw : IntKind.u8.wrap 1 = 1 := rfl
  obtain ⟨bi, ci, rfl, _, hci⟩ := hi
  obtain ⟨bp, cp, rfl, _, hcp⟩ := hp
  have HI := Lib.hid hci
  have HP := Lib.hid hcp
  obtain ⟨n, hn⟩ : ∃ n, n = ins.length := ⟨_, rfl⟩
  obtain ⟨m, hm⟩ : ∃ m, m = prs.length := ⟨_, rfl⟩
  rw [← hn] at hli ⊢
  rw [← hm] at hlp ⊢
  have hfin : bs [1, UInt8.ofNat player] ++ bs (leB epoch 8) ++ bs (leB dest 8) ++ bs (leB count 8) ++ bs (leB own 8) = bs (K.mk 1 player epoch dest count own first ins prs frame sum).pay := by
    simp only [bs_app]
    congr 1
    simp [K.pay, K.body, K.tail, leB_one hplayer]
  have HF := Lib.hid hfin
  clear hfin hk HI HP hci hcp hn hm
  go_enter Tryd.func62, Tryd.ntmps62
  go_wp2_with fail
  have hJ : Hold w (K.mk 1 player epoch dest count own first ins prs frame sum) (.slice bi n ci) (.slice bp m cp) (w.alloc (.cells (pc (K.mk 1 player epoch dest count own first ins prs frame sum) (.slice bi n ci) (.slice bp m cp)) 34)) := ⟨heap_alloc_new w _, bel_alloc w _⟩
  dsimp only [pc] at hJ
  refine Draw.wp_region_frame (Hold w (K.mk 1 player epoch dest count own first ins prs frame sum) (.slice bi n ci) (.slice bp m cp)) (fun W W' => Below W.heap.size W W') (fun i W vv => match i with
      | 0 => vv = .pointer (some ⟨w.heap.size, 0, none⟩)
      | 1 => vv = .int .i64 1
      | 2 => vv = .int .u8 1
      | 3 => vv = .pointer (some ⟨w.heap.size, 1, none⟩)
      | 4 => vv = .int .u8 player
      | 5 => Row1 [1, UInt8.ofNat player] W vv
      | 6 => vv = .string (bs [1, UInt8.ofNat player])
      | 7 => vv = .pointer (some ⟨w.heap.size, 2, none⟩)
      | 8 => vv = .int .u64 epoch
      | 9 => vv = .string (bs (leB epoch 8))
      | 10 => vv = .string (bs [1, UInt8.ofNat player] ++ bs (leB epoch 8))
      | 11 => vv = .pointer (some ⟨w.heap.size, 3, none⟩)
      | 12 => vv = .int .u64 dest
      | 13 => vv = .string (bs (leB dest 8))
      | 14 => vv = .string (bs [1, UInt8.ofNat player] ++ bs (leB epoch 8) ++ bs (leB dest 8))
      | 15 => vv = .pointer (some ⟨w.heap.size, 4, none⟩)
      | 16 => vv = .int .u64 count
      | 17 => vv = .string (bs (leB count 8))
      | 18 => vv = .string (bs [1, UInt8.ofNat player] ++ bs (leB epoch 8) ++ bs (leB dest 8) ++ bs (leB count 8))
      | _ => vv = .string (bs [1, UInt8.ofNat player] ++ bs (leB epoch 8) ++ bs (leB dest 8) ++ bs (leB count 8))) (by kernel_rfl) (by kernel_rfl) (by decide) rfl ?_ ⟨hJ.blk, hJ.bel.drew⟩ ?_ [6, 7, 8, 9, 10, 11, 12, 13, 14, 15, 16, 17, 18, 19, 20, 21, 22, 23, 24, 3] (by rfl) ?_
  · intro i W W' vv he hf
    match i with
    | 5 => exact Row1.call hf he
    | 0 | 1 | 2 | 3 | 4 | 6 | 7 | 8 | 9 | 10 | 11 | 12 | 13 | 14 | 15 | 16 | 17 | 18 | n + 19 => exact hf
  · refine ⟨?_, ?_, ?_, ?_, ?_, ?_, ?_, ?_, ?_, ?_, ?_, ?_, ?_, ?_, ?_, ?_, ?_, ?_, ?_, ?_, trivial⟩
    all_goals intro ρ W hJ hc hf hKn
    · refine Draw.Goes.plain rfl ?_
      have h0 : ρ (.tmp 1) = .pointer (some ⟨w.heap.size, 0, none⟩) := hKn.1.2 1 rfl
      refine Draw.Runs.value (w' := W) (v := .pointer (some ⟨w.heap.size, 0, none⟩)) ?_ ⟨hJ, Below.refl _ _, rfl⟩
      simp only [execOp]; go_simp
    · refine Draw.Goes.plain rfl ?_
      have h0 : ρ (.tmp 6) = .pointer (some ⟨w.heap.size, 0, none⟩) := hKn.1.get 0 6 rfl rfl
      have c : W.cell? ⟨w.heap.size, 0, none⟩ = some (.int .i64 1) := hJ.blk.cell _ rfl
      refine Draw.Runs.value (w' := W) (v := .int .i64 1) ?_ ⟨hJ, Below.refl _ _, rfl⟩
      simp only [execOp]; go_simp
    · refine Draw.Goes.plain rfl ?_
      have h0 : ρ (.tmp 7) = .int .i64 1 := hKn.1.get 1 7 rfl rfl
      refine Draw.Runs.value (w' := W) (v := .int .u8 1) ?_ ⟨hJ, Below.refl _ _, rfl⟩
      simp only [execOp]; go_simp
    · refine Draw.Goes.plain rfl ?_
      have h0 : ρ (.tmp 1) = .pointer (some ⟨w.heap.size, 0, none⟩) := hKn.1.2 1 rfl
      refine Draw.Runs.value (w' := W) (v := .pointer (some ⟨w.heap.size, 1, none⟩)) ?_ ⟨hJ, Below.refl _ _, rfl⟩
      simp only [execOp]; go_simp
    · refine Draw.Goes.plain rfl ?_
      have h0 : ρ (.tmp 9) = .pointer (some ⟨w.heap.size, 1, none⟩) := hKn.1.get 3 9 rfl rfl
      have c : W.cell? ⟨w.heap.size, 1, none⟩ = some (.int .u8 player) := hJ.blk.cell _ rfl
      refine Draw.Runs.value (w' := W) (v := .int .u8 player) ?_ ⟨hJ, Below.refl _ _, rfl⟩
      simp only [execOp]; go_simp
    · refine Draw.Goes.plain rfl ?_
      have h0 : ρ (.tmp 8) = .int .u8 1 := hKn.1.get 2 8 rfl rfl
      have h1 : ρ (.tmp 10) = .int .u8 player := hKn.1.get 4 10 rfl rfl
      refine Draw.Runs.value (w' := W.alloc (.cells ([1, UInt8.ofNat player].map bc).toArray 5)) (v := .slice (some ⟨W.heap.size, 0, none⟩) 2 2) ?_ ⟨hJ.call (bel_alloc _ _), bel_alloc _ _, W.heap.size, rfl, heap_alloc_new W _⟩
      rw [show ([1, UInt8.ofNat player].map bc).toArray = #[.int .u8 1, .int .u8 player] by simp [bc]; try omega]
      simp only [execOp]; go_simp
    · refine Draw.Goes.plain rfl ?_
      have h : Row1 [1, UInt8.ofNat player] W (ρ (.tmp 11)) := hKn.1.get 5 11 rfl rfl
      have hcv := h.conv (by show _ ≤ maxLen; unfold maxLen; simp)
      refine Draw.Runs.value (w' := W) (v := .string (bs [1, UInt8.ofNat player])) ?_ ⟨hJ, Below.refl _ _, rfl⟩
      simp only [execOp]; go_simp
    · refine Draw.Goes.plain rfl ?_
      have h0 : ρ (.tmp 1) = .pointer (some ⟨w.heap.size, 0, none⟩) := hKn.1.2 1 rfl
      refine Draw.Runs.value (w' := W) (v := .pointer (some ⟨w.heap.size, 2, none⟩)) ?_ ⟨hJ, Below.refl _ _, rfl⟩
      simp only [execOp]; go_simp
    · refine Draw.Goes.plain rfl ?_
      have h0 : ρ (.tmp 13) = .pointer (some ⟨w.heap.size, 2, none⟩) := hKn.1.get 7 13 rfl rfl
      have c : W.cell? ⟨w.heap.size, 2, none⟩ = some (.int .u64 epoch) := hJ.blk.cell _ rfl
      refine Draw.Runs.value (w' := W) (v := .int .u64 epoch) ?_ ⟨hJ, Below.refl _ _, rfl⟩
      simp only [execOp]; go_simp
    · refine Draw.Goes.plain rfl ?_
      have h0 : ρ (.tmp 14) = .int .u64 epoch := hKn.1.get 8 14 rfl rfl
      refine Draw.Runs.enter (f := 103) (args := #[.int .u64 epoch]) ?_ ((Hepoch.out W).mono fun e W' ⟨he, hb⟩ => ⟨_, he, hJ.call hb, hb, rfl⟩)
      simp only [execOp]; go_simp
    · refine Draw.Goes.plain rfl ?_
      have h0 : ρ (.tmp 12) = .string (bs [1, UInt8.ofNat player]) := hKn.1.get 6 12 rfl rfl
      have h1 : ρ (.tmp 15) = .string (bs (leB epoch 8)) := hKn.1.get 9 15 rfl rfl
      refine Draw.Runs.value (w' := W) (v := .string (bs [1, UInt8.ofNat player] ++ bs (leB epoch 8))) ?_ ⟨hJ, Below.refl _ _, rfl⟩
      simp only [execOp]; go_simp
      all_goals omega
    · refine Draw.Goes.plain rfl ?_
      have h0 : ρ (.tmp 1) = .pointer (some ⟨w.heap.size, 0, none⟩) := hKn.1.2 1 rfl
      refine Draw.Runs.value (w' := W) (v := .pointer (some ⟨w.heap.size, 3, none⟩)) ?_ ⟨hJ, Below.refl _ _, rfl⟩
      simp only [execOp]; go_simp
    · refine Draw.Goes.plain rfl ?_
      have h0 : ρ (.tmp 17) = .pointer (some ⟨w.heap.size, 3, none⟩) := hKn.1.get 11 17 rfl rfl
      have c : W.cell? ⟨w.heap.size, 3, none⟩ = some (.int .u64 dest) := hJ.blk.cell _ rfl
      refine Draw.Runs.value (w' := W) (v := .int .u64 dest) ?_ ⟨hJ, Below.refl _ _, rfl⟩
      simp only [execOp]; go_simp
    · refine Draw.Goes.plain rfl ?_
      have h0 : ρ (.tmp 18) = .int .u64 dest := hKn.1.get 12 18 rfl rfl
      refine Draw.Runs.enter (f := 103) (args := #[.int .u64 dest]) ?_ ((Hdest.out W).mono fun e W' ⟨he, hb⟩ => ⟨_, he, hJ.call hb, hb, rfl⟩)
      simp only [execOp]; go_simp
    · refine Draw.Goes.plain rfl ?_
      have h0 : ρ (.tmp 16) = .string (bs [1, UInt8.ofNat player] ++ bs (leB epoch 8)) := hKn.1.get 10 16 rfl rfl
      have h1 : ρ (.tmp 19) = .string (bs (leB dest 8)) := hKn.1.get 13 19 rfl rfl
      refine Draw.Runs.value (w' := W) (v := .string (bs [1, UInt8.ofNat player] ++ bs (leB epoch 8) ++ bs (leB dest 8))) ?_ ⟨hJ, Below.refl _ _, rfl⟩
      simp only [execOp]; go_simp
      all_goals omega
    · refine Draw.Goes.plain rfl ?_
      have h0 : ρ (.tmp 1) = .pointer (some ⟨w.heap.size, 0, none⟩) := hKn.1.2 1 rfl
      refine Draw.Runs.value (w' := W) (v := .pointer (some ⟨w.heap.size, 4, none⟩)) ?_ ⟨hJ, Below.refl _ _, rfl⟩
      simp only [execOp]; go_simp
    · refine Draw.Goes.plain rfl ?_
      have h0 : ρ (.tmp 21) = .pointer (some ⟨w.heap.size, 4, none⟩) := hKn.1.get 15 21 rfl rfl
      have c : W.cell? ⟨w.heap.size, 4, none⟩ = some (.int .u64 count) := hJ.blk.cell _ rfl
      refine Draw.Runs.value (w' := W) (v := .int .u64 count) ?_ ⟨hJ, Below.refl _ _, rfl⟩
      simp only [execOp]; go_simp
    · refine Draw.Goes.plain rfl ?_
      have h0 : ρ (.tmp 22) = .int .u64 count := hKn.1.get 16 22 rfl rfl
      refine Draw.Runs.enter (f := 103) (args := #[.int .u64 count]) ?_ ((Hcount.out W).mono fun e W' ⟨he, hb⟩ => ⟨_, he, hJ.call hb, hb, rfl⟩)
      simp only [execOp]; go_simp
    · refine Draw.Goes.plain rfl ?_
      have h0 : ρ (.tmp 20) = .string (bs [1, UInt8.ofNat player] ++ bs (leB epoch 8) ++ bs (leB dest 8)) := hKn.1.get 14 20 rfl rfl
      have h1 : ρ (.tmp 23) = .string (bs (leB count 8)) := hKn.1.get 17 23 rfl rfl
      refine Draw.Runs.value (w' := W) (v := .string (bs [1, UInt8.ofNat player] ++ bs (leB epoch 8) ++ bs (leB dest 8) ++ bs (leB count 8))) ?_ ⟨hJ, Below.refl _ _, rfl⟩
      simp only [execOp]; go_simp
      all_goals omega
    · refine Draw.Goes.plain rfl ?_
      exact Draw.Runs.value (w' := W) (v := ρ (.tmp 24)) rfl ⟨hJ, Below.refl _ _, hKn.1.get 18 24 rfl rfl⟩
  · intro u W hJ hf
    have r3 : u 3 = .string (bs [1, UInt8.ofNat player] ++ bs (leB epoch 8) ++ bs (leB dest 8) ++ bs (leB count 8)) := hf 19 _ 3 rfl rfl
    simp only [List.foldl_cons, List.foldl_nil, List.setIfInBounds_toArray, List.set_cons_succ, List.set_cons_zero, r3]
    have c0 : W.cell? ⟨w.heap.size, 0, none⟩ = some (.int .i64 1) := hJ.blk.cell _ rfl
    have c5 : W.cell? ⟨w.heap.size, 5, none⟩ = some (.int .u64 own) := hJ.blk.cell _ rfl
    have HB := Lib.hid hJ.bel
    have zpre : (bs [1, UInt8.ofNat player] ++ bs (leB epoch 8) ++ bs (leB dest 8) ++ bs (leB count 8)).size = 26 := by simp only [ByteArray.size_append, zhead, zepoch, zdest, zcount]
    clear hJ hf zhead zepoch zdest zcount
    generalize bs [1, UInt8.ofNat player] ++ bs (leB epoch 8) ++ bs (leB dest 8) ++ bs (leB count 8) = pre at *
    go_wp2_with fail
    refine (Hown.out W).mono ?_
    rintro e W2 ⟨rfl, hb2⟩
    have hB2 := HB.out.trans (hb2.mono HB.out.size)
    clear hb2
    go_wp2
    go_ret
    exact ⟨ret_str HF.out, hB2⟩
set_option maxRecDepth 100000 in
set_option maxHeartbeats 4000000 in
theorem rpay_2 (player epoch dest count own first : Nat) (ins : List UInt8) (prs : List (UInt8 × UInt8)) (frame sum : Nat) (vi vp : Value) (w : World) (hk : (K.mk 2 player epoch dest count own first ins prs frame sum).wf) (hi : Ins w vi ins) (hp : Prs w vp prs) (hli : ins.length ≤ 32) (hlp : prs.length ≤ 32) :
    Calls Tryd.prog 62 #[.agg (pc (K.mk 2 player epoch dest count own first ins prs frame sum) vi vp)] w fun e w' => e = .returned (.string (bs (K.mk 2 player epoch dest count own first ins prs frame sum).pay)) ∧ Below w.heap.size w w' := by
  have hplayer : player < 256 := hk.player
  have hepoch : epoch < 18446744073709551616 := hk.epoch
  have hdest : dest < 18446744073709551616 := hk.dest
  have hcount : count < 18446744073709551616 := hk.count
  have hown : own < 18446744073709551616 := hk.own
  have Hepoch := Lib.hid (fun W => long_any epoch W hepoch)
  have Hdest := Lib.hid (fun W => long_any dest W hdest)
  have Hcount := Lib.hid (fun W => long_any count W hcount)
  have Hown := Lib.hid (fun W => long_any own W hown)
  have zepoch : (bs (leB epoch 8)).size = 8 := by rw [bs_size, leB_length]
  have zdest : (bs (leB dest 8)).size = 8 := by rw [bs_size, leB_length]
  have zcount : (bs (leB count 8)).size = 8 := by rw [bs_size, leB_length]
  have zown : (bs (leB own 8)).size = 8 := by rw [bs_size, leB_length]
  have zhead : (bs [2, UInt8.ofNat player]).size = 2 := by rw [bs_size]; rfl
  have hkw : IntKind.u8.wrap 2 = 2 := rfl
  obtain ⟨bi, ci, rfl, _, hci⟩ := hi
  obtain ⟨bp, cp, rfl, _, hcp⟩ := hp
  have HI := Lib.hid hci
  have HP := Lib.hid hcp
  obtain ⟨n, hn⟩ : ∃ n, n = ins.length := ⟨_, rfl⟩
  obtain ⟨m, hm⟩ : ∃ m, m = prs.length := ⟨_, rfl⟩
  rw [← hn] at hli ⊢
  rw [← hm] at hlp ⊢
  have hfin : bs [2, UInt8.ofNat player] ++ bs (leB epoch 8) ++ bs (leB dest 8) ++ bs (leB count 8) ++ bs (leB own 8) = bs (K.mk 2 player epoch dest count own first ins prs frame sum).pay := by
    simp only [bs_app]
    congr 1
    simp [K.pay, K.body, K.tail, leB_one hplayer]
  have HF := Lib.hid hfin
  clear hfin hk HI HP hci hcp hn hm
  go_enter Tryd.func62, Tryd.ntmps62
  go_wp2_with fail
  have hJ : Hold w (K.mk 2 player epoch dest count own first ins prs frame sum) (.slice bi n ci) (.slice bp m cp) (w.alloc (.cells (pc (K.mk 2 player epoch dest count own first ins prs frame sum) (.slice bi n ci) (.slice bp m cp)) 34)) := ⟨heap_alloc_new w _, bel_alloc w _⟩
  dsimp only [pc] at hJ
  refine Draw.wp_region_frame (Hold w (K.mk 2 player epoch dest count own first ins prs frame sum) (.slice bi n ci) (.slice bp m cp)) (fun W W' => Below W.heap.size W W') (fun i W vv => match i with
      | 0 => vv = .pointer (some ⟨w.heap.size, 0, none⟩)
      | 1 => vv = .int .i64 2
      | 2 => vv = .int .u8 2
      | 3 => vv = .pointer (some ⟨w.heap.size, 1, none⟩)
      | 4 => vv = .int .u8 player
      | 5 => Row1 [2, UInt8.ofNat player] W vv
      | 6 => vv = .string (bs [2, UInt8.ofNat player])
      | 7 => vv = .pointer (some ⟨w.heap.size, 2, none⟩)
      | 8 => vv = .int .u64 epoch
      | 9 => vv = .string (bs (leB epoch 8))
      | 10 => vv = .string (bs [2, UInt8.ofNat player] ++ bs (leB epoch 8))
      | 11 => vv = .pointer (some ⟨w.heap.size, 3, none⟩)
      | 12 => vv = .int .u64 dest
      | 13 => vv = .string (bs (leB dest 8))
      | 14 => vv = .string (bs [2, UInt8.ofNat player] ++ bs (leB epoch 8) ++ bs (leB dest 8))
      | 15 => vv = .pointer (some ⟨w.heap.size, 4, none⟩)
      | 16 => vv = .int .u64 count
      | 17 => vv = .string (bs (leB count 8))
      | 18 => vv = .string (bs [2, UInt8.ofNat player] ++ bs (leB epoch 8) ++ bs (leB dest 8) ++ bs (leB count 8))
      | _ => vv = .string (bs [2, UInt8.ofNat player] ++ bs (leB epoch 8) ++ bs (leB dest 8) ++ bs (leB count 8))) (by kernel_rfl) (by kernel_rfl) (by decide) rfl ?_ ⟨hJ.blk, hJ.bel.drew⟩ ?_ [6, 7, 8, 9, 10, 11, 12, 13, 14, 15, 16, 17, 18, 19, 20, 21, 22, 23, 24, 3] (by rfl) ?_
  · intro i W W' vv he hf
    match i with
    | 5 => exact Row1.call hf he
    | 0 | 1 | 2 | 3 | 4 | 6 | 7 | 8 | 9 | 10 | 11 | 12 | 13 | 14 | 15 | 16 | 17 | 18 | n + 19 => exact hf
  · refine ⟨?_, ?_, ?_, ?_, ?_, ?_, ?_, ?_, ?_, ?_, ?_, ?_, ?_, ?_, ?_, ?_, ?_, ?_, ?_, ?_, trivial⟩
    all_goals intro ρ W hJ hc hf hKn
    · refine Draw.Goes.plain rfl ?_
      have h0 : ρ (.tmp 1) = .pointer (some ⟨w.heap.size, 0, none⟩) := hKn.1.2 1 rfl
      refine Draw.Runs.value (w' := W) (v := .pointer (some ⟨w.heap.size, 0, none⟩)) ?_ ⟨hJ, Below.refl _ _, rfl⟩
      simp only [execOp]; go_simp
    · refine Draw.Goes.plain rfl ?_
      have h0 : ρ (.tmp 6) = .pointer (some ⟨w.heap.size, 0, none⟩) := hKn.1.get 0 6 rfl rfl
      have c : W.cell? ⟨w.heap.size, 0, none⟩ = some (.int .i64 2) := hJ.blk.cell _ rfl
      refine Draw.Runs.value (w' := W) (v := .int .i64 2) ?_ ⟨hJ, Below.refl _ _, rfl⟩
      simp only [execOp]; go_simp
    · refine Draw.Goes.plain rfl ?_
      have h0 : ρ (.tmp 7) = .int .i64 2 := hKn.1.get 1 7 rfl rfl
      refine Draw.Runs.value (w' := W) (v := .int .u8 2) ?_ ⟨hJ, Below.refl _ _, rfl⟩
      simp only [execOp]; go_simp
    · refine Draw.Goes.plain rfl ?_
      have h0 : ρ (.tmp 1) = .pointer (some ⟨w.heap.size, 0, none⟩) := hKn.1.2 1 rfl
      refine Draw.Runs.value (w' := W) (v := .pointer (some ⟨w.heap.size, 1, none⟩)) ?_ ⟨hJ, Below.refl _ _, rfl⟩
      simp only [execOp]; go_simp
    · refine Draw.Goes.plain rfl ?_
      have h0 : ρ (.tmp 9) = .pointer (some ⟨w.heap.size, 1, none⟩) := hKn.1.get 3 9 rfl rfl
      have c : W.cell? ⟨w.heap.size, 1, none⟩ = some (.int .u8 player) := hJ.blk.cell _ rfl
      refine Draw.Runs.value (w' := W) (v := .int .u8 player) ?_ ⟨hJ, Below.refl _ _, rfl⟩
      simp only [execOp]; go_simp
    · refine Draw.Goes.plain rfl ?_
      have h0 : ρ (.tmp 8) = .int .u8 2 := hKn.1.get 2 8 rfl rfl
      have h1 : ρ (.tmp 10) = .int .u8 player := hKn.1.get 4 10 rfl rfl
      refine Draw.Runs.value (w' := W.alloc (.cells ([2, UInt8.ofNat player].map bc).toArray 5)) (v := .slice (some ⟨W.heap.size, 0, none⟩) 2 2) ?_ ⟨hJ.call (bel_alloc _ _), bel_alloc _ _, W.heap.size, rfl, heap_alloc_new W _⟩
      rw [show ([2, UInt8.ofNat player].map bc).toArray = #[.int .u8 2, .int .u8 player] by simp [bc]; try omega]
      simp only [execOp]; go_simp
    · refine Draw.Goes.plain rfl ?_
      have h : Row1 [2, UInt8.ofNat player] W (ρ (.tmp 11)) := hKn.1.get 5 11 rfl rfl
      have hcv := h.conv (by show _ ≤ maxLen; unfold maxLen; simp)
      refine Draw.Runs.value (w' := W) (v := .string (bs [2, UInt8.ofNat player])) ?_ ⟨hJ, Below.refl _ _, rfl⟩
      simp only [execOp]; go_simp
    · refine Draw.Goes.plain rfl ?_
      have h0 : ρ (.tmp 1) = .pointer (some ⟨w.heap.size, 0, none⟩) := hKn.1.2 1 rfl
      refine Draw.Runs.value (w' := W) (v := .pointer (some ⟨w.heap.size, 2, none⟩)) ?_ ⟨hJ, Below.refl _ _, rfl⟩
      simp only [execOp]; go_simp
    · refine Draw.Goes.plain rfl ?_
      have h0 : ρ (.tmp 13) = .pointer (some ⟨w.heap.size, 2, none⟩) := hKn.1.get 7 13 rfl rfl
      have c : W.cell? ⟨w.heap.size, 2, none⟩ = some (.int .u64 epoch) := hJ.blk.cell _ rfl
      refine Draw.Runs.value (w' := W) (v := .int .u64 epoch) ?_ ⟨hJ, Below.refl _ _, rfl⟩
      simp only [execOp]; go_simp
    · refine Draw.Goes.plain rfl ?_
      have h0 : ρ (.tmp 14) = .int .u64 epoch := hKn.1.get 8 14 rfl rfl
      refine Draw.Runs.enter (f := 103) (args := #[.int .u64 epoch]) ?_ ((Hepoch.out W).mono fun e W' ⟨he, hb⟩ => ⟨_, he, hJ.call hb, hb, rfl⟩)
      simp only [execOp]; go_simp
    · refine Draw.Goes.plain rfl ?_
      have h0 : ρ (.tmp 12) = .string (bs [2, UInt8.ofNat player]) := hKn.1.get 6 12 rfl rfl
      have h1 : ρ (.tmp 15) = .string (bs (leB epoch 8)) := hKn.1.get 9 15 rfl rfl
      refine Draw.Runs.value (w' := W) (v := .string (bs [2, UInt8.ofNat player] ++ bs (leB epoch 8))) ?_ ⟨hJ, Below.refl _ _, rfl⟩
      simp only [execOp]; go_simp
      all_goals omega
    · refine Draw.Goes.plain rfl ?_
      have h0 : ρ (.tmp 1) = .pointer (some ⟨w.heap.size, 0, none⟩) := hKn.1.2 1 rfl
      refine Draw.Runs.value (w' := W) (v := .pointer (some ⟨w.heap.size, 3, none⟩)) ?_ ⟨hJ, Below.refl _ _, rfl⟩
      simp only [execOp]; go_simp
    · refine Draw.Goes.plain rfl ?_
      have h0 : ρ (.tmp 17) = .pointer (some ⟨w.heap.size, 3, none⟩) := hKn.1.get 11 17 rfl rfl
      have c : W.cell? ⟨w.heap.size, 3, none⟩ = some (.int .u64 dest) := hJ.blk.cell _ rfl
      refine Draw.Runs.value (w' := W) (v := .int .u64 dest) ?_ ⟨hJ, Below.refl _ _, rfl⟩
      simp only [execOp]; go_simp
    · refine Draw.Goes.plain rfl ?_
      have h0 : ρ (.tmp 18) = .int .u64 dest := hKn.1.get 12 18 rfl rfl
      refine Draw.Runs.enter (f := 103) (args := #[.int .u64 dest]) ?_ ((Hdest.out W).mono fun e W' ⟨he, hb⟩ => ⟨_, he, hJ.call hb, hb, rfl⟩)
      simp only [execOp]; go_simp
    · refine Draw.Goes.plain rfl ?_
      have h0 : ρ (.tmp 16) = .string (bs [2, UInt8.ofNat player] ++ bs (leB epoch 8)) := hKn.1.get 10 16 rfl rfl
      have h1 : ρ (.tmp 19) = .string (bs (leB dest 8)) := hKn.1.get 13 19 rfl rfl
      refine Draw.Runs.value (w' := W) (v := .string (bs [2, UInt8.ofNat player] ++ bs (leB epoch 8) ++ bs (leB dest 8))) ?_ ⟨hJ, Below.refl _ _, rfl⟩
      simp only [execOp]; go_simp
      all_goals omega
    · refine Draw.Goes.plain rfl ?_
      have h0 : ρ (.tmp 1) = .pointer (some ⟨w.heap.size, 0, none⟩) := hKn.1.2 1 rfl
      refine Draw.Runs.value (w' := W) (v := .pointer (some ⟨w.heap.size, 4, none⟩)) ?_ ⟨hJ, Below.refl _ _, rfl⟩
      simp only [execOp]; go_simp
    · refine Draw.Goes.plain rfl ?_
      have h0 : ρ (.tmp 21) = .pointer (some ⟨w.heap.size, 4, none⟩) := hKn.1.get 15 21 rfl rfl
      have c : W.cell? ⟨w.heap.size, 4, none⟩ = some (.int .u64 count) := hJ.blk.cell _ rfl
      refine Draw.Runs.value (w' := W) (v := .int .u64 count) ?_ ⟨hJ, Below.refl _ _, rfl⟩
      simp only [execOp]; go_simp
    · refine Draw.Goes.plain rfl ?_
      have h0 : ρ (.tmp 22) = .int .u64 count := hKn.1.get 16 22 rfl rfl
      refine Draw.Runs.enter (f := 103) (args := #[.int .u64 count]) ?_ ((Hcount.out W).mono fun e W' ⟨he, hb⟩ => ⟨_, he, hJ.call hb, hb, rfl⟩)
      simp only [execOp]; go_simp
    · refine Draw.Goes.plain rfl ?_
      have h0 : ρ (.tmp 20) = .string (bs [2, UInt8.ofNat player] ++ bs (leB epoch 8) ++ bs (leB dest 8)) := hKn.1.get 14 20 rfl rfl
      have h1 : ρ (.tmp 23) = .string (bs (leB count 8)) := hKn.1.get 17 23 rfl rfl
      refine Draw.Runs.value (w' := W) (v := .string (bs [2, UInt8.ofNat player] ++ bs (leB epoch 8) ++ bs (leB dest 8) ++ bs (leB count 8))) ?_ ⟨hJ, Below.refl _ _, rfl⟩
      simp only [execOp]; go_simp
      all_goals omega
    · refine Draw.Goes.plain rfl ?_
      exact Draw.Runs.value (w' := W) (v := ρ (.tmp 24)) rfl ⟨hJ, Below.refl _ _, hKn.1.get 18 24 rfl rfl⟩
  · intro u W hJ hf
    have r3 : u 3 = .string (bs [2, UInt8.ofNat player] ++ bs (leB epoch 8) ++ bs (leB dest 8) ++ bs (leB count 8)) := hf 19 _ 3 rfl rfl
    simp only [List.foldl_cons, List.foldl_nil, List.setIfInBounds_toArray, List.set_cons_succ, List.set_cons_zero, r3]
    have c0 : W.cell? ⟨w.heap.size, 0, none⟩ = some (.int .i64 2) := hJ.blk.cell _ rfl
    have c5 : W.cell? ⟨w.heap.size, 5, none⟩ = some (.int .u64 own) := hJ.blk.cell _ rfl
    have HB := Lib.hid hJ.bel
    have zpre : (bs [2, UInt8.ofNat player] ++ bs (leB epoch 8) ++ bs (leB dest 8) ++ bs (leB count 8)).size = 26 := by simp only [ByteArray.size_append, zhead, zepoch, zdest, zcount]
    clear hJ hf zhead zepoch zdest zcount
    generalize bs [2, UInt8.ofNat player] ++ bs (leB epoch 8) ++ bs (leB dest 8) ++ bs (leB count 8) = pre at *
    go_wp2_with fail
    refine (Hown.out W).mono ?_
    rintro e W2 ⟨rfl, hb2⟩
    have hB2 := HB.out.trans (hb2.mono HB.out.size)
    clear hb2
    go_wp2
    go_ret
    exact ⟨ret_str HF.out, hB2⟩
set_option maxRecDepth 100000 in
set_option maxHeartbeats 4000000 in
theorem rpay_3 (player epoch dest count own first : Nat) (ins : List UInt8) (prs : List (UInt8 × UInt8)) (frame sum : Nat) (vi vp : Value) (w : World) (hk : (K.mk 3 player epoch dest count own first ins prs frame sum).wf) (hi : Ins w vi ins) (hp : Prs w vp prs) (hli : ins.length ≤ 32) (hlp : prs.length ≤ 32) :
    Calls Tryd.prog 62 #[.agg (pc (K.mk 3 player epoch dest count own first ins prs frame sum) vi vp)] w fun e w' => e = .returned (.string (bs (K.mk 3 player epoch dest count own first ins prs frame sum).pay)) ∧ Below w.heap.size w w' := by
  have hplayer : player < 256 := hk.player
  have hepoch : epoch < 18446744073709551616 := hk.epoch
  have hdest : dest < 18446744073709551616 := hk.dest
  have hcount : count < 18446744073709551616 := hk.count
  have hfirst : first < 18446744073709551616 := hk.first
  have Hepoch := Lib.hid (fun W => long_any epoch W hepoch)
  have Hdest := Lib.hid (fun W => long_any dest W hdest)
  have Hcount := Lib.hid (fun W => long_any count W hcount)
  have Hfirst := Lib.hid (fun W => long_any first W hfirst)
  have zepoch : (bs (leB epoch 8)).size = 8 := by rw [bs_size, leB_length]
  have zdest : (bs (leB dest 8)).size = 8 := by rw [bs_size, leB_length]
  have zcount : (bs (leB count 8)).size = 8 := by rw [bs_size, leB_length]
  have zfirst : (bs (leB first 8)).size = 8 := by rw [bs_size, leB_length]
  have zhead : (bs [3, UInt8.ofNat player]).size = 2 := by rw [bs_size]; rfl
  have hkw : IntKind.u8.wrap 3 = 3 := rfl
  obtain ⟨bi, ci, rfl, _, hci⟩ := hi
  obtain ⟨bp, cp, rfl, _, hcp⟩ := hp
  have HI := Lib.hid hci
  have HP := Lib.hid hcp
  obtain ⟨n, hn⟩ : ∃ n, n = ins.length := ⟨_, rfl⟩
  obtain ⟨m, hm⟩ : ∃ m, m = prs.length := ⟨_, rfl⟩
  rw [← hn] at hli ⊢
  rw [← hm] at hlp ⊢
  have hfin : bs [3, UInt8.ofNat player] ++ bs (leB epoch 8) ++ bs (leB dest 8) ++ bs (leB count 8) ++ bs (leB first 8) ++ bs [UInt8.ofNat n] ++ bs (ins) = bs (K.mk 3 player epoch dest count own first ins prs frame sum).pay := by
    simp only [bs_app]
    congr 1
    have e1 : leB ins.length 1 = [UInt8.ofNat n] := by rw [← hn]; exact leB_one (by omega)
    simp [K.pay, K.body, K.tail, leB_one hplayer, e1]
  have HF := Lib.hid hfin
  have HL := Lib.hid hn
  have hcw : IntKind.u8.wrap (n : Int) = (n : Int) := by rw [IntKind.wrap_u8]; omega
  have zcnt : (bs [UInt8.ofNat n]).size = 1 := by rw [bs_size]; rfl
  clear hfin hk hci hcp hn hm
  go_enter Tryd.func62, Tryd.ntmps62
  go_wp2_with fail
  have hJ : Hold w (K.mk 3 player epoch dest count own first ins prs frame sum) (.slice bi n ci) (.slice bp m cp) (w.alloc (.cells (pc (K.mk 3 player epoch dest count own first ins prs frame sum) (.slice bi n ci) (.slice bp m cp)) 34)) := ⟨heap_alloc_new w _, bel_alloc w _⟩
  dsimp only [pc] at hJ
  refine Draw.wp_region_frame (Hold w (K.mk 3 player epoch dest count own first ins prs frame sum) (.slice bi n ci) (.slice bp m cp)) (fun W W' => Below W.heap.size W W') (fun i W vv => match i with
      | 0 => vv = .pointer (some ⟨w.heap.size, 0, none⟩)
      | 1 => vv = .int .i64 3
      | 2 => vv = .int .u8 3
      | 3 => vv = .pointer (some ⟨w.heap.size, 1, none⟩)
      | 4 => vv = .int .u8 player
      | 5 => Row1 [3, UInt8.ofNat player] W vv
      | 6 => vv = .string (bs [3, UInt8.ofNat player])
      | 7 => vv = .pointer (some ⟨w.heap.size, 2, none⟩)
      | 8 => vv = .int .u64 epoch
      | 9 => vv = .string (bs (leB epoch 8))
      | 10 => vv = .string (bs [3, UInt8.ofNat player] ++ bs (leB epoch 8))
      | 11 => vv = .pointer (some ⟨w.heap.size, 3, none⟩)
      | 12 => vv = .int .u64 dest
      | 13 => vv = .string (bs (leB dest 8))
      | 14 => vv = .string (bs [3, UInt8.ofNat player] ++ bs (leB epoch 8) ++ bs (leB dest 8))
      | 15 => vv = .pointer (some ⟨w.heap.size, 4, none⟩)
      | 16 => vv = .int .u64 count
      | 17 => vv = .string (bs (leB count 8))
      | 18 => vv = .string (bs [3, UInt8.ofNat player] ++ bs (leB epoch 8) ++ bs (leB dest 8) ++ bs (leB count 8))
      | _ => vv = .string (bs [3, UInt8.ofNat player] ++ bs (leB epoch 8) ++ bs (leB dest 8) ++ bs (leB count 8))) (by kernel_rfl) (by kernel_rfl) (by decide) rfl ?_ ⟨hJ.blk, hJ.bel.drew⟩ ?_ [6, 7, 8, 9, 10, 11, 12, 13, 14, 15, 16, 17, 18, 19, 20, 21, 22, 23, 24, 3] (by rfl) ?_
  · intro i W W' vv he hf
    match i with
    | 5 => exact Row1.call hf he
    | 0 | 1 | 2 | 3 | 4 | 6 | 7 | 8 | 9 | 10 | 11 | 12 | 13 | 14 | 15 | 16 | 17 | 18 | n + 19 => exact hf
  · refine ⟨?_, ?_, ?_, ?_, ?_, ?_, ?_, ?_, ?_, ?_, ?_, ?_, ?_, ?_, ?_, ?_, ?_, ?_, ?_, ?_, trivial⟩
    all_goals intro ρ W hJ hc hf hKn
    · refine Draw.Goes.plain rfl ?_
      have h0 : ρ (.tmp 1) = .pointer (some ⟨w.heap.size, 0, none⟩) := hKn.1.2 1 rfl
      refine Draw.Runs.value (w' := W) (v := .pointer (some ⟨w.heap.size, 0, none⟩)) ?_ ⟨hJ, Below.refl _ _, rfl⟩
      simp only [execOp]; go_simp
    · refine Draw.Goes.plain rfl ?_
      have h0 : ρ (.tmp 6) = .pointer (some ⟨w.heap.size, 0, none⟩) := hKn.1.get 0 6 rfl rfl
      have c : W.cell? ⟨w.heap.size, 0, none⟩ = some (.int .i64 3) := hJ.blk.cell _ rfl
      refine Draw.Runs.value (w' := W) (v := .int .i64 3) ?_ ⟨hJ, Below.refl _ _, rfl⟩
      simp only [execOp]; go_simp
    · refine Draw.Goes.plain rfl ?_
      have h0 : ρ (.tmp 7) = .int .i64 3 := hKn.1.get 1 7 rfl rfl
      refine Draw.Runs.value (w' := W) (v := .int .u8 3) ?_ ⟨hJ, Below.refl _ _, rfl⟩
      simp only [execOp]; go_simp
    · refine Draw.Goes.plain rfl ?_
      have h0 : ρ (.tmp 1) = .pointer (some ⟨w.heap.size, 0, none⟩) := hKn.1.2 1 rfl
      refine Draw.Runs.value (w' := W) (v := .pointer (some ⟨w.heap.size, 1, none⟩)) ?_ ⟨hJ, Below.refl _ _, rfl⟩
      simp only [execOp]; go_simp
    · refine Draw.Goes.plain rfl ?_
      have h0 : ρ (.tmp 9) = .pointer (some ⟨w.heap.size, 1, none⟩) := hKn.1.get 3 9 rfl rfl
      have c : W.cell? ⟨w.heap.size, 1, none⟩ = some (.int .u8 player) := hJ.blk.cell _ rfl
      refine Draw.Runs.value (w' := W) (v := .int .u8 player) ?_ ⟨hJ, Below.refl _ _, rfl⟩
      simp only [execOp]; go_simp
    · refine Draw.Goes.plain rfl ?_
      have h0 : ρ (.tmp 8) = .int .u8 3 := hKn.1.get 2 8 rfl rfl
      have h1 : ρ (.tmp 10) = .int .u8 player := hKn.1.get 4 10 rfl rfl
      refine Draw.Runs.value (w' := W.alloc (.cells ([3, UInt8.ofNat player].map bc).toArray 5)) (v := .slice (some ⟨W.heap.size, 0, none⟩) 2 2) ?_ ⟨hJ.call (bel_alloc _ _), bel_alloc _ _, W.heap.size, rfl, heap_alloc_new W _⟩
      rw [show ([3, UInt8.ofNat player].map bc).toArray = #[.int .u8 3, .int .u8 player] by simp [bc]; try omega]
      simp only [execOp]; go_simp
    · refine Draw.Goes.plain rfl ?_
      have h : Row1 [3, UInt8.ofNat player] W (ρ (.tmp 11)) := hKn.1.get 5 11 rfl rfl
      have hcv := h.conv (by show _ ≤ maxLen; unfold maxLen; simp)
      refine Draw.Runs.value (w' := W) (v := .string (bs [3, UInt8.ofNat player])) ?_ ⟨hJ, Below.refl _ _, rfl⟩
      simp only [execOp]; go_simp
    · refine Draw.Goes.plain rfl ?_
      have h0 : ρ (.tmp 1) = .pointer (some ⟨w.heap.size, 0, none⟩) := hKn.1.2 1 rfl
      refine Draw.Runs.value (w' := W) (v := .pointer (some ⟨w.heap.size, 2, none⟩)) ?_ ⟨hJ, Below.refl _ _, rfl⟩
      simp only [execOp]; go_simp
    · refine Draw.Goes.plain rfl ?_
      have h0 : ρ (.tmp 13) = .pointer (some ⟨w.heap.size, 2, none⟩) := hKn.1.get 7 13 rfl rfl
      have c : W.cell? ⟨w.heap.size, 2, none⟩ = some (.int .u64 epoch) := hJ.blk.cell _ rfl
      refine Draw.Runs.value (w' := W) (v := .int .u64 epoch) ?_ ⟨hJ, Below.refl _ _, rfl⟩
      simp only [execOp]; go_simp
    · refine Draw.Goes.plain rfl ?_
      have h0 : ρ (.tmp 14) = .int .u64 epoch := hKn.1.get 8 14 rfl rfl
      refine Draw.Runs.enter (f := 103) (args := #[.int .u64 epoch]) ?_ ((Hepoch.out W).mono fun e W' ⟨he, hb⟩ => ⟨_, he, hJ.call hb, hb, rfl⟩)
      simp only [execOp]; go_simp
    · refine Draw.Goes.plain rfl ?_
      have h0 : ρ (.tmp 12) = .string (bs [3, UInt8.ofNat player]) := hKn.1.get 6 12 rfl rfl
      have h1 : ρ (.tmp 15) = .string (bs (leB epoch 8)) := hKn.1.get 9 15 rfl rfl
      refine Draw.Runs.value (w' := W) (v := .string (bs [3, UInt8.ofNat player] ++ bs (leB epoch 8))) ?_ ⟨hJ, Below.refl _ _, rfl⟩
      simp only [execOp]; go_simp
      all_goals omega
    · refine Draw.Goes.plain rfl ?_
      have h0 : ρ (.tmp 1) = .pointer (some ⟨w.heap.size, 0, none⟩) := hKn.1.2 1 rfl
      refine Draw.Runs.value (w' := W) (v := .pointer (some ⟨w.heap.size, 3, none⟩)) ?_ ⟨hJ, Below.refl _ _, rfl⟩
      simp only [execOp]; go_simp
    · refine Draw.Goes.plain rfl ?_
      have h0 : ρ (.tmp 17) = .pointer (some ⟨w.heap.size, 3, none⟩) := hKn.1.get 11 17 rfl rfl
      have c : W.cell? ⟨w.heap.size, 3, none⟩ = some (.int .u64 dest) := hJ.blk.cell _ rfl
      refine Draw.Runs.value (w' := W) (v := .int .u64 dest) ?_ ⟨hJ, Below.refl _ _, rfl⟩
      simp only [execOp]; go_simp
    · refine Draw.Goes.plain rfl ?_
      have h0 : ρ (.tmp 18) = .int .u64 dest := hKn.1.get 12 18 rfl rfl
      refine Draw.Runs.enter (f := 103) (args := #[.int .u64 dest]) ?_ ((Hdest.out W).mono fun e W' ⟨he, hb⟩ => ⟨_, he, hJ.call hb, hb, rfl⟩)
      simp only [execOp]; go_simp
    · refine Draw.Goes.plain rfl ?_
      have h0 : ρ (.tmp 16) = .string (bs [3, UInt8.ofNat player] ++ bs (leB epoch 8)) := hKn.1.get 10 16 rfl rfl
      have h1 : ρ (.tmp 19) = .string (bs (leB dest 8)) := hKn.1.get 13 19 rfl rfl
      refine Draw.Runs.value (w' := W) (v := .string (bs [3, UInt8.ofNat player] ++ bs (leB epoch 8) ++ bs (leB dest 8))) ?_ ⟨hJ, Below.refl _ _, rfl⟩
      simp only [execOp]; go_simp
      all_goals omega
    · refine Draw.Goes.plain rfl ?_
      have h0 : ρ (.tmp 1) = .pointer (some ⟨w.heap.size, 0, none⟩) := hKn.1.2 1 rfl
      refine Draw.Runs.value (w' := W) (v := .pointer (some ⟨w.heap.size, 4, none⟩)) ?_ ⟨hJ, Below.refl _ _, rfl⟩
      simp only [execOp]; go_simp
    · refine Draw.Goes.plain rfl ?_
      have h0 : ρ (.tmp 21) = .pointer (some ⟨w.heap.size, 4, none⟩) := hKn.1.get 15 21 rfl rfl
      have c : W.cell? ⟨w.heap.size, 4, none⟩ = some (.int .u64 count) := hJ.blk.cell _ rfl
      refine Draw.Runs.value (w' := W) (v := .int .u64 count) ?_ ⟨hJ, Below.refl _ _, rfl⟩
      simp only [execOp]; go_simp
    · refine Draw.Goes.plain rfl ?_
      have h0 : ρ (.tmp 22) = .int .u64 count := hKn.1.get 16 22 rfl rfl
      refine Draw.Runs.enter (f := 103) (args := #[.int .u64 count]) ?_ ((Hcount.out W).mono fun e W' ⟨he, hb⟩ => ⟨_, he, hJ.call hb, hb, rfl⟩)
      simp only [execOp]; go_simp
    · refine Draw.Goes.plain rfl ?_
      have h0 : ρ (.tmp 20) = .string (bs [3, UInt8.ofNat player] ++ bs (leB epoch 8) ++ bs (leB dest 8)) := hKn.1.get 14 20 rfl rfl
      have h1 : ρ (.tmp 23) = .string (bs (leB count 8)) := hKn.1.get 17 23 rfl rfl
      refine Draw.Runs.value (w' := W) (v := .string (bs [3, UInt8.ofNat player] ++ bs (leB epoch 8) ++ bs (leB dest 8) ++ bs (leB count 8))) ?_ ⟨hJ, Below.refl _ _, rfl⟩
      simp only [execOp]; go_simp
      all_goals omega
    · refine Draw.Goes.plain rfl ?_
      exact Draw.Runs.value (w' := W) (v := ρ (.tmp 24)) rfl ⟨hJ, Below.refl _ _, hKn.1.get 18 24 rfl rfl⟩
  · intro u W hJ hf
    have r3 : u 3 = .string (bs [3, UInt8.ofNat player] ++ bs (leB epoch 8) ++ bs (leB dest 8) ++ bs (leB count 8)) := hf 19 _ 3 rfl rfl
    simp only [List.foldl_cons, List.foldl_nil, List.setIfInBounds_toArray, List.set_cons_succ, List.set_cons_zero, r3]
    have c0 : W.cell? ⟨w.heap.size, 0, none⟩ = some (.int .i64 3) := hJ.blk.cell _ rfl
    have zpre : (bs [3, UInt8.ofNat player] ++ bs (leB epoch 8) ++ bs (leB dest 8) ++ bs (leB count 8)).size = 26 := by simp only [ByteArray.size_append, zhead, zepoch, zdest, zcount]
    have HOLD := Lib.hid hJ
    clear hJ hf zhead zepoch zdest zcount Hepoch Hdest Hcount
    generalize bs [3, UInt8.ofNat player] ++ bs (leB epoch 8) ++ bs (leB dest 8) ++ bs (leB count 8) = pre at *
    go_wp2_with fail
    refine Draw.wp_region_frame (Hold w (K.mk 3 player epoch dest count own first ins prs frame sum) (.slice bi n ci) (.slice bp m cp)) (fun W W' => Below W.heap.size W W') (fun i W vv => match i with
        | 0 => vv = .string (pre)
        | 1 => vv = .pointer (some ⟨w.heap.size, 6, none⟩)
        | 2 => vv = .int .u64 first
        | 3 => vv = .string (bs (leB first 8))
        | 4 => vv = .string (pre ++ bs (leB first 8))
        | 5 => vv = .pointer (some ⟨w.heap.size, 7, none⟩)
        | 6 => vv = (.slice bi n ci)
        | 7 => vv = .int .i64 n
        | 8 => vv = .int .u8 n
        | 9 => Row1 [UInt8.ofNat n] W vv
        | 10 => vv = .string (bs [UInt8.ofNat n])
        | 11 => vv = .string (pre ++ bs (leB first 8) ++ bs [UInt8.ofNat n])
        | _ => vv = .string (pre ++ bs (leB first 8) ++ bs [UInt8.ofNat n])) (by kernel_rfl) (by kernel_rfl) (by decide) rfl ?_ ⟨HOLD.out.blk, HOLD.out.bel.drew⟩ ?_ [37, 38, 39, 40, 41, 42, 43, 44, 45, 46, 47, 48, 3] (by rfl) ?_
    · intro i W W' vv he hf
      match i with
      | 9 => exact Row1.call hf he
      | 0 | 1 | 2 | 3 | 4 | 5 | 6 | 7 | 8 | 10 | 11 | n + 12 => exact hf
    · refine ⟨?_, ?_, ?_, ?_, ?_, ?_, ?_, ?_, ?_, ?_, ?_, ?_, ?_, trivial⟩
      all_goals intro ρ W hJ hc hf hKn
      · refine Draw.Goes.plain rfl ?_
        exact Draw.Runs.value (w' := W) (v := ρ (.tmp 3)) rfl ⟨hJ, Below.refl _ _, hKn.2 12 _ 3 rfl rfl rfl⟩
      · refine Draw.Goes.plain rfl ?_
        have h0 : ρ (.tmp 1) = .pointer (some ⟨w.heap.size, 0, none⟩) := hKn.1.2 1 rfl
        refine Draw.Runs.value (w' := W) (v := .pointer (some ⟨w.heap.size, 6, none⟩)) ?_ ⟨hJ, Below.refl _ _, rfl⟩
        simp only [execOp]; go_simp
      · refine Draw.Goes.plain rfl ?_
        have h0 : ρ (.tmp 38) = .pointer (some ⟨w.heap.size, 6, none⟩) := hKn.1.get 1 38 rfl rfl
        have c : W.cell? ⟨w.heap.size, 6, none⟩ = some (.int .u64 first) := hJ.blk.cell _ rfl
        refine Draw.Runs.value (w' := W) (v := .int .u64 first) ?_ ⟨hJ, Below.refl _ _, rfl⟩
        simp only [execOp]; go_simp
      · refine Draw.Goes.plain rfl ?_
        have h0 : ρ (.tmp 39) = .int .u64 first := hKn.1.get 2 39 rfl rfl
        refine Draw.Runs.enter (f := 103) (args := #[.int .u64 first]) ?_ ((Hfirst.out W).mono fun e W' ⟨he, hb⟩ => ⟨_, he, hJ.call hb, hb, rfl⟩)
        simp only [execOp]; go_simp
      · refine Draw.Goes.plain rfl ?_
        have h0 : ρ (.tmp 37) = .string (pre) := hKn.1.get 0 37 rfl rfl
        have h1 : ρ (.tmp 40) = .string (bs (leB first 8)) := hKn.1.get 3 40 rfl rfl
        refine Draw.Runs.value (w' := W) (v := .string (pre ++ bs (leB first 8))) ?_ ⟨hJ, Below.refl _ _, rfl⟩
        simp only [execOp]; go_simp
        all_goals omega
      · refine Draw.Goes.plain rfl ?_
        have h0 : ρ (.tmp 1) = .pointer (some ⟨w.heap.size, 0, none⟩) := hKn.1.2 1 rfl
        refine Draw.Runs.value (w' := W) (v := .pointer (some ⟨w.heap.size, 7, none⟩)) ?_ ⟨hJ, Below.refl _ _, rfl⟩
        simp only [execOp]; go_simp
      · refine Draw.Goes.plain rfl ?_
        have h0 : ρ (.tmp 42) = .pointer (some ⟨w.heap.size, 7, none⟩) := hKn.1.get 5 42 rfl rfl
        have c : W.cell? ⟨w.heap.size, 7, none⟩ = some ((.slice bi n ci)) := hJ.blk.cell _ rfl
        refine Draw.Runs.value (w' := W) (v := (.slice bi n ci)) ?_ ⟨hJ, Below.refl _ _, rfl⟩
        simp only [execOp]; go_simp
      · refine Draw.Goes.plain rfl ?_
        have h0 : ρ (.tmp 43) = (.slice bi n ci) := hKn.1.get 6 43 rfl rfl
        refine Draw.Runs.value (w' := W) (v := .int .i64 n) ?_ ⟨hJ, Below.refl _ _, rfl⟩
        simp only [execOp]; go_simp
      · refine Draw.Goes.plain rfl ?_
        have h0 : ρ (.tmp 44) = .int .i64 n := hKn.1.get 7 44 rfl rfl
        refine Draw.Runs.value (w' := W) (v := .int .u8 n) ?_ ⟨hJ, Below.refl _ _, rfl⟩
        simp only [execOp]; go_simp
      · refine Draw.Goes.plain rfl ?_
        have h0 : ρ (.tmp 45) = .int .u8 n := hKn.1.get 8 45 rfl rfl
        refine Draw.Runs.value (w' := W.alloc (.cells ([UInt8.ofNat n].map bc).toArray 5)) (v := .slice (some ⟨W.heap.size, 0, none⟩) 1 1) ?_ ⟨hJ.call (bel_alloc _ _), bel_alloc _ _, W.heap.size, rfl, heap_alloc_new W _⟩
        rw [show ([UInt8.ofNat n].map bc).toArray = #[.int .u8 n] by simp [bc]; try omega]
        simp only [execOp]; go_simp
      · refine Draw.Goes.plain rfl ?_
        have h : Row1 [UInt8.ofNat n] W (ρ (.tmp 46)) := hKn.1.get 9 46 rfl rfl
        have hcv := h.conv (by show _ ≤ maxLen; unfold maxLen; simp)
        refine Draw.Runs.value (w' := W) (v := .string (bs [UInt8.ofNat n])) ?_ ⟨hJ, Below.refl _ _, rfl⟩
        simp only [execOp]; go_simp
      · refine Draw.Goes.plain rfl ?_
        have h0 : ρ (.tmp 41) = .string (pre ++ bs (leB first 8)) := hKn.1.get 4 41 rfl rfl
        have h1 : ρ (.tmp 47) = .string (bs [UInt8.ofNat n]) := hKn.1.get 10 47 rfl rfl
        refine Draw.Runs.value (w' := W) (v := .string (pre ++ bs (leB first 8) ++ bs [UInt8.ofNat n])) ?_ ⟨hJ, Below.refl _ _, rfl⟩
        simp only [execOp]; go_simp
        all_goals omega
      · refine Draw.Goes.plain rfl ?_
        exact Draw.Runs.value (w' := W) (v := ρ (.tmp 48)) rfl ⟨hJ, Below.refl _ _, hKn.1.get 11 48 rfl rfl⟩
    · intro u2 W hJ hf
      have r3 : u2 3 = .string (pre ++ bs (leB first 8) ++ bs [UInt8.ofNat n]) := hf 12 _ 3 rfl rfl
      simp only [List.foldl_cons, List.foldl_nil, List.setIfInBounds_toArray, List.set_cons_succ, List.set_cons_zero, r3]
      have zfull : (pre ++ bs (leB first 8) ++ bs [UInt8.ofNat n]).size = 35 := by simp only [ByteArray.size_append, zpre, zfirst, zcnt]
      have HFULL := Lib.hid hJ
      clear hJ hf HOLD zpre zfirst zcnt
      generalize pre ++ bs (leB first 8) ++ bs [UInt8.ofNat n] = full at *
      go_wp2_with fail
      go_loopw [3, 4] (fun s i wr => ∃ (j : Nat) (X : ByteArray), j ≤ n ∧ i = .int .i64 j ∧ s = .string X ∧ X = full ++ bs (ins.take j) ∧ Hold w (K.mk 3 player epoch dest count own first ins prs frame sum) (.slice bi n ci) (.slice bp m cp) wr) (fun _ i _ => n - (intOf i).toNat)
      case atStart => exact ⟨0, full, Nat.zero_le _, rfl, rfl, by simp [bs, flat, ByteArray.ext_iff], HFULL.out⟩
      case round =>
        obtain ⟨j, X, hj, rfl, rfl, hX, hJ⟩ := hrel
        have c7 : wr.cell? ⟨w.heap.size, 7, none⟩ = some ((.slice bi n ci)) := hJ.blk.cell _ rfl
        have zX : X.size ≤ 35 + 64 := by
          rw [hX, ByteArray.size_append, zfull, bs_size]
          rw [List.length_take]; omega
        have HX := Lib.hid hX
        have HJ := Lib.hid hJ
        clear hX hJ
        by_cases hlt : j < n
        · obtain ⟨g, o, rfl, ha, h1⟩ := HI.out j (by have := HL.out; omega)
          have d1 : wr.cell? ⟨g, o + j, none⟩ = some (.int .u8 (ins[j]'(by have := HL.out; omega)).toNat) := (HJ.out.bel.cell (p := ⟨g, o + j, none⟩) ha).trans h1
          have hsn : ins.take (j + 1) = ins.take j ++ [ins[j]'(by have := HL.out; omega)] := List.take_succ_eq_append_getElem _
          clear h1
          generalize ins[j]'(by have := HL.out; omega) = x at *
          have hcv := conv_one x
          have zx : (bs [x]).size = 1 := by rw [bs_size]; rfl
          have HS := Lib.hid hsn
          clear hsn
          go_wp2
          go_roundw
          case rel => exact ⟨j + 1, X ++ bs [x], by omega, by go_num, rfl, by rw [HX.out, HS.out, ← bs_app, ByteArray.append_assoc], HJ.out.call (bel_alloc _ _)⟩
          case measure => simp [intOf]; omega
        · obtain rfl : j = n := by omega
          have he : bs (ins.take j) = bs ins := by rw [List.take_of_length_le (by have := HL.out; omega)]
          have HE := Lib.hid he
          clear he
          go_wp2
          go_ret
          exact ⟨ret_str (by rw [HX.out, HE.out, HF.out]), HJ.out.bel⟩
set_option maxRecDepth 100000 in
set_option maxHeartbeats 4000000 in
theorem rpay_4 (player epoch dest count own first : Nat) (ins : List UInt8) (prs : List (UInt8 × UInt8)) (frame sum : Nat) (vi vp : Value) (w : World) (hk : (K.mk 4 player epoch dest count own first ins prs frame sum).wf) (hi : Ins w vi ins) (hp : Prs w vp prs) (hli : ins.length ≤ 32) (hlp : prs.length ≤ 32) :
    Calls Tryd.prog 62 #[.agg (pc (K.mk 4 player epoch dest count own first ins prs frame sum) vi vp)] w fun e w' => e = .returned (.string (bs (K.mk 4 player epoch dest count own first ins prs frame sum).pay)) ∧ Below w.heap.size w w' := by
  have hplayer : player < 256 := hk.player
  have hepoch : epoch < 18446744073709551616 := hk.epoch
  have hdest : dest < 18446744073709551616 := hk.dest
  have hcount : count < 18446744073709551616 := hk.count
  have hfirst : first < 18446744073709551616 := hk.first
  have Hepoch := Lib.hid (fun W => long_any epoch W hepoch)
  have Hdest := Lib.hid (fun W => long_any dest W hdest)
  have Hcount := Lib.hid (fun W => long_any count W hcount)
  have Hfirst := Lib.hid (fun W => long_any first W hfirst)
  have zepoch : (bs (leB epoch 8)).size = 8 := by rw [bs_size, leB_length]
  have zdest : (bs (leB dest 8)).size = 8 := by rw [bs_size, leB_length]
  have zcount : (bs (leB count 8)).size = 8 := by rw [bs_size, leB_length]
  have zfirst : (bs (leB first 8)).size = 8 := by rw [bs_size, leB_length]
  have zhead : (bs [4, UInt8.ofNat player]).size = 2 := by rw [bs_size]; rfl
  have hkw : IntKind.u8.wrap 4 = 4 := rfl
  obtain ⟨bi, ci, rfl, _, hci⟩ := hi
  obtain ⟨bp, cp, rfl, _, hcp⟩ := hp
  have HI := Lib.hid hci
  have HP := Lib.hid hcp
  obtain ⟨n, hn⟩ : ∃ n, n = ins.length := ⟨_, rfl⟩
  obtain ⟨m, hm⟩ : ∃ m, m = prs.length := ⟨_, rfl⟩
  rw [← hn] at hli ⊢
  rw [← hm] at hlp ⊢
  have hfin : bs [4, UInt8.ofNat player] ++ bs (leB epoch 8) ++ bs (leB dest 8) ++ bs (leB count 8) ++ bs (leB first 8) ++ bs [UInt8.ofNat m] ++ bs (flat prs) = bs (K.mk 4 player epoch dest count own first ins prs frame sum).pay := by
    simp only [bs_app]
    congr 1
    have e1 : leB prs.length 1 = [UInt8.ofNat m] := by rw [← hm]; exact leB_one (by omega)
    simp [K.pay, K.body, K.tail, leB_one hplayer, e1]
  have HF := Lib.hid hfin
  have HL := Lib.hid hm
  have hcw : IntKind.u8.wrap (m : Int) = (m : Int) := by rw [IntKind.wrap_u8]; omega
  have zcnt : (bs [UInt8.ofNat m]).size = 1 := by rw [bs_size]; rfl
  clear hfin hk hci hcp hn hm
  go_enter Tryd.func62, Tryd.ntmps62
  go_wp2_with fail
  have hJ : Hold w (K.mk 4 player epoch dest count own first ins prs frame sum) (.slice bi n ci) (.slice bp m cp) (w.alloc (.cells (pc (K.mk 4 player epoch dest count own first ins prs frame sum) (.slice bi n ci) (.slice bp m cp)) 34)) := ⟨heap_alloc_new w _, bel_alloc w _⟩
  dsimp only [pc] at hJ
  refine Draw.wp_region_frame (Hold w (K.mk 4 player epoch dest count own first ins prs frame sum) (.slice bi n ci) (.slice bp m cp)) (fun W W' => Below W.heap.size W W') (fun i W vv => match i with
      | 0 => vv = .pointer (some ⟨w.heap.size, 0, none⟩)
      | 1 => vv = .int .i64 4
      | 2 => vv = .int .u8 4
      | 3 => vv = .pointer (some ⟨w.heap.size, 1, none⟩)
      | 4 => vv = .int .u8 player
      | 5 => Row1 [4, UInt8.ofNat player] W vv
      | 6 => vv = .string (bs [4, UInt8.ofNat player])
      | 7 => vv = .pointer (some ⟨w.heap.size, 2, none⟩)
      | 8 => vv = .int .u64 epoch
      | 9 => vv = .string (bs (leB epoch 8))
      | 10 => vv = .string (bs [4, UInt8.ofNat player] ++ bs (leB epoch 8))
      | 11 => vv = .pointer (some ⟨w.heap.size, 3, none⟩)
      | 12 => vv = .int .u64 dest
      | 13 => vv = .string (bs (leB dest 8))
      | 14 => vv = .string (bs [4, UInt8.ofNat player] ++ bs (leB epoch 8) ++ bs (leB dest 8))
      | 15 => vv = .pointer (some ⟨w.heap.size, 4, none⟩)
      | 16 => vv = .int .u64 count
      | 17 => vv = .string (bs (leB count 8))
      | 18 => vv = .string (bs [4, UInt8.ofNat player] ++ bs (leB epoch 8) ++ bs (leB dest 8) ++ bs (leB count 8))
      | _ => vv = .string (bs [4, UInt8.ofNat player] ++ bs (leB epoch 8) ++ bs (leB dest 8) ++ bs (leB count 8))) (by kernel_rfl) (by kernel_rfl) (by decide) rfl ?_ ⟨hJ.blk, hJ.bel.drew⟩ ?_ [6, 7, 8, 9, 10, 11, 12, 13, 14, 15, 16, 17, 18, 19, 20, 21, 22, 23, 24, 3] (by rfl) ?_
  · intro i W W' vv he hf
    match i with
    | 5 => exact Row1.call hf he
    | 0 | 1 | 2 | 3 | 4 | 6 | 7 | 8 | 9 | 10 | 11 | 12 | 13 | 14 | 15 | 16 | 17 | 18 | n + 19 => exact hf
  · refine ⟨?_, ?_, ?_, ?_, ?_, ?_, ?_, ?_, ?_, ?_, ?_, ?_, ?_, ?_, ?_, ?_, ?_, ?_, ?_, ?_, trivial⟩
    all_goals intro ρ W hJ hc hf hKn
    · refine Draw.Goes.plain rfl ?_
      have h0 : ρ (.tmp 1) = .pointer (some ⟨w.heap.size, 0, none⟩) := hKn.1.2 1 rfl
      refine Draw.Runs.value (w' := W) (v := .pointer (some ⟨w.heap.size, 0, none⟩)) ?_ ⟨hJ, Below.refl _ _, rfl⟩
      simp only [execOp]; go_simp
    · refine Draw.Goes.plain rfl ?_
      have h0 : ρ (.tmp 6) = .pointer (some ⟨w.heap.size, 0, none⟩) := hKn.1.get 0 6 rfl rfl
      have c : W.cell? ⟨w.heap.size, 0, none⟩ = some (.int .i64 4) := hJ.blk.cell _ rfl
      refine Draw.Runs.value (w' := W) (v := .int .i64 4) ?_ ⟨hJ, Below.refl _ _, rfl⟩
      simp only [execOp]; go_simp
    · refine Draw.Goes.plain rfl ?_
      have h0 : ρ (.tmp 7) = .int .i64 4 := hKn.1.get 1 7 rfl rfl
      refine Draw.Runs.value (w' := W) (v := .int .u8 4) ?_ ⟨hJ, Below.refl _ _, rfl⟩
      simp only [execOp]; go_simp
    · refine Draw.Goes.plain rfl ?_
      have h0 : ρ (.tmp 1) = .pointer (some ⟨w.heap.size, 0, none⟩) := hKn.1.2 1 rfl
      refine Draw.Runs.value (w' := W) (v := .pointer (some ⟨w.heap.size, 1, none⟩)) ?_ ⟨hJ, Below.refl _ _, rfl⟩
      simp only [execOp]; go_simp
    · refine Draw.Goes.plain rfl ?_
      have h0 : ρ (.tmp 9) = .pointer (some ⟨w.heap.size, 1, none⟩) := hKn.1.get 3 9 rfl rfl
      have c : W.cell? ⟨w.heap.size, 1, none⟩ = some (.int .u8 player) := hJ.blk.cell _ rfl
      refine Draw.Runs.value (w' := W) (v := .int .u8 player) ?_ ⟨hJ, Below.refl _ _, rfl⟩
      simp only [execOp]; go_simp
    · refine Draw.Goes.plain rfl ?_
      have h0 : ρ (.tmp 8) = .int .u8 4 := hKn.1.get 2 8 rfl rfl
      have h1 : ρ (.tmp 10) = .int .u8 player := hKn.1.get 4 10 rfl rfl
      refine Draw.Runs.value (w' := W.alloc (.cells ([4, UInt8.ofNat player].map bc).toArray 5)) (v := .slice (some ⟨W.heap.size, 0, none⟩) 2 2) ?_ ⟨hJ.call (bel_alloc _ _), bel_alloc _ _, W.heap.size, rfl, heap_alloc_new W _⟩
      rw [show ([4, UInt8.ofNat player].map bc).toArray = #[.int .u8 4, .int .u8 player] by simp [bc]; try omega]
      simp only [execOp]; go_simp
    · refine Draw.Goes.plain rfl ?_
      have h : Row1 [4, UInt8.ofNat player] W (ρ (.tmp 11)) := hKn.1.get 5 11 rfl rfl
      have hcv := h.conv (by show _ ≤ maxLen; unfold maxLen; simp)
      refine Draw.Runs.value (w' := W) (v := .string (bs [4, UInt8.ofNat player])) ?_ ⟨hJ, Below.refl _ _, rfl⟩
      simp only [execOp]; go_simp
    · refine Draw.Goes.plain rfl ?_
      have h0 : ρ (.tmp 1) = .pointer (some ⟨w.heap.size, 0, none⟩) := hKn.1.2 1 rfl
      refine Draw.Runs.value (w' := W) (v := .pointer (some ⟨w.heap.size, 2, none⟩)) ?_ ⟨hJ, Below.refl _ _, rfl⟩
      simp only [execOp]; go_simp
    · refine Draw.Goes.plain rfl ?_
      have h0 : ρ (.tmp 13) = .pointer (some ⟨w.heap.size, 2, none⟩) := hKn.1.get 7 13 rfl rfl
      have c : W.cell? ⟨w.heap.size, 2, none⟩ = some (.int .u64 epoch) := hJ.blk.cell _ rfl
      refine Draw.Runs.value (w' := W) (v := .int .u64 epoch) ?_ ⟨hJ, Below.refl _ _, rfl⟩
      simp only [execOp]; go_simp
    · refine Draw.Goes.plain rfl ?_
      have h0 : ρ (.tmp 14) = .int .u64 epoch := hKn.1.get 8 14 rfl rfl
      refine Draw.Runs.enter (f := 103) (args := #[.int .u64 epoch]) ?_ ((Hepoch.out W).mono fun e W' ⟨he, hb⟩ => ⟨_, he, hJ.call hb, hb, rfl⟩)
      simp only [execOp]; go_simp
    · refine Draw.Goes.plain rfl ?_
      have h0 : ρ (.tmp 12) = .string (bs [4, UInt8.ofNat player]) := hKn.1.get 6 12 rfl rfl
      have h1 : ρ (.tmp 15) = .string (bs (leB epoch 8)) := hKn.1.get 9 15 rfl rfl
      refine Draw.Runs.value (w' := W) (v := .string (bs [4, UInt8.ofNat player] ++ bs (leB epoch 8))) ?_ ⟨hJ, Below.refl _ _, rfl⟩
      simp only [execOp]; go_simp
      all_goals omega
    · refine Draw.Goes.plain rfl ?_
      have h0 : ρ (.tmp 1) = .pointer (some ⟨w.heap.size, 0, none⟩) := hKn.1.2 1 rfl
      refine Draw.Runs.value (w' := W) (v := .pointer (some ⟨w.heap.size, 3, none⟩)) ?_ ⟨hJ, Below.refl _ _, rfl⟩
      simp only [execOp]; go_simp
    · refine Draw.Goes.plain rfl ?_
      have h0 : ρ (.tmp 17) = .pointer (some ⟨w.heap.size, 3, none⟩) := hKn.1.get 11 17 rfl rfl
      have c : W.cell? ⟨w.heap.size, 3, none⟩ = some (.int .u64 dest) := hJ.blk.cell _ rfl
      refine Draw.Runs.value (w' := W) (v := .int .u64 dest) ?_ ⟨hJ, Below.refl _ _, rfl⟩
      simp only [execOp]; go_simp
    · refine Draw.Goes.plain rfl ?_
      have h0 : ρ (.tmp 18) = .int .u64 dest := hKn.1.get 12 18 rfl rfl
      refine Draw.Runs.enter (f := 103) (args := #[.int .u64 dest]) ?_ ((Hdest.out W).mono fun e W' ⟨he, hb⟩ => ⟨_, he, hJ.call hb, hb, rfl⟩)
      simp only [execOp]; go_simp
    · refine Draw.Goes.plain rfl ?_
      have h0 : ρ (.tmp 16) = .string (bs [4, UInt8.ofNat player] ++ bs (leB epoch 8)) := hKn.1.get 10 16 rfl rfl
      have h1 : ρ (.tmp 19) = .string (bs (leB dest 8)) := hKn.1.get 13 19 rfl rfl
      refine Draw.Runs.value (w' := W) (v := .string (bs [4, UInt8.ofNat player] ++ bs (leB epoch 8) ++ bs (leB dest 8))) ?_ ⟨hJ, Below.refl _ _, rfl⟩
      simp only [execOp]; go_simp
      all_goals omega
    · refine Draw.Goes.plain rfl ?_
      have h0 : ρ (.tmp 1) = .pointer (some ⟨w.heap.size, 0, none⟩) := hKn.1.2 1 rfl
      refine Draw.Runs.value (w' := W) (v := .pointer (some ⟨w.heap.size, 4, none⟩)) ?_ ⟨hJ, Below.refl _ _, rfl⟩
      simp only [execOp]; go_simp
    · refine Draw.Goes.plain rfl ?_
      have h0 : ρ (.tmp 21) = .pointer (some ⟨w.heap.size, 4, none⟩) := hKn.1.get 15 21 rfl rfl
      have c : W.cell? ⟨w.heap.size, 4, none⟩ = some (.int .u64 count) := hJ.blk.cell _ rfl
      refine Draw.Runs.value (w' := W) (v := .int .u64 count) ?_ ⟨hJ, Below.refl _ _, rfl⟩
      simp only [execOp]; go_simp
    · refine Draw.Goes.plain rfl ?_
      have h0 : ρ (.tmp 22) = .int .u64 count := hKn.1.get 16 22 rfl rfl
      refine Draw.Runs.enter (f := 103) (args := #[.int .u64 count]) ?_ ((Hcount.out W).mono fun e W' ⟨he, hb⟩ => ⟨_, he, hJ.call hb, hb, rfl⟩)
      simp only [execOp]; go_simp
    · refine Draw.Goes.plain rfl ?_
      have h0 : ρ (.tmp 20) = .string (bs [4, UInt8.ofNat player] ++ bs (leB epoch 8) ++ bs (leB dest 8)) := hKn.1.get 14 20 rfl rfl
      have h1 : ρ (.tmp 23) = .string (bs (leB count 8)) := hKn.1.get 17 23 rfl rfl
      refine Draw.Runs.value (w' := W) (v := .string (bs [4, UInt8.ofNat player] ++ bs (leB epoch 8) ++ bs (leB dest 8) ++ bs (leB count 8))) ?_ ⟨hJ, Below.refl _ _, rfl⟩
      simp only [execOp]; go_simp
      all_goals omega
    · refine Draw.Goes.plain rfl ?_
      exact Draw.Runs.value (w' := W) (v := ρ (.tmp 24)) rfl ⟨hJ, Below.refl _ _, hKn.1.get 18 24 rfl rfl⟩
  · intro u W hJ hf
    have r3 : u 3 = .string (bs [4, UInt8.ofNat player] ++ bs (leB epoch 8) ++ bs (leB dest 8) ++ bs (leB count 8)) := hf 19 _ 3 rfl rfl
    simp only [List.foldl_cons, List.foldl_nil, List.setIfInBounds_toArray, List.set_cons_succ, List.set_cons_zero, r3]
    have c0 : W.cell? ⟨w.heap.size, 0, none⟩ = some (.int .i64 4) := hJ.blk.cell _ rfl
    have zpre : (bs [4, UInt8.ofNat player] ++ bs (leB epoch 8) ++ bs (leB dest 8) ++ bs (leB count 8)).size = 26 := by simp only [ByteArray.size_append, zhead, zepoch, zdest, zcount]
    have HOLD := Lib.hid hJ
    clear hJ hf zhead zepoch zdest zcount Hepoch Hdest Hcount
    generalize bs [4, UInt8.ofNat player] ++ bs (leB epoch 8) ++ bs (leB dest 8) ++ bs (leB count 8) = pre at *
    go_wp2_with fail
    refine Draw.wp_region_frame (Hold w (K.mk 4 player epoch dest count own first ins prs frame sum) (.slice bi n ci) (.slice bp m cp)) (fun W W' => Below W.heap.size W W') (fun i W vv => match i with
        | 0 => vv = .string (pre)
        | 1 => vv = .pointer (some ⟨w.heap.size, 6, none⟩)
        | 2 => vv = .int .u64 first
        | 3 => vv = .string (bs (leB first 8))
        | 4 => vv = .string (pre ++ bs (leB first 8))
        | 5 => vv = .pointer (some ⟨w.heap.size, 8, none⟩)
        | 6 => vv = (.slice bp m cp)
        | 7 => vv = .int .i64 m
        | 8 => vv = .int .u8 m
        | 9 => Row1 [UInt8.ofNat m] W vv
        | 10 => vv = .string (bs [UInt8.ofNat m])
        | 11 => vv = .string (pre ++ bs (leB first 8) ++ bs [UInt8.ofNat m])
        | _ => vv = .string (pre ++ bs (leB first 8) ++ bs [UInt8.ofNat m])) (by kernel_rfl) (by kernel_rfl) (by decide) rfl ?_ ⟨HOLD.out.blk, HOLD.out.bel.drew⟩ ?_ [67, 68, 69, 70, 71, 72, 73, 74, 75, 76, 77, 78, 3] (by rfl) ?_
    · intro i W W' vv he hf
      match i with
      | 9 => exact Row1.call hf he
      | 0 | 1 | 2 | 3 | 4 | 5 | 6 | 7 | 8 | 10 | 11 | n + 12 => exact hf
    · refine ⟨?_, ?_, ?_, ?_, ?_, ?_, ?_, ?_, ?_, ?_, ?_, ?_, ?_, trivial⟩
      all_goals intro ρ W hJ hc hf hKn
      · refine Draw.Goes.plain rfl ?_
        exact Draw.Runs.value (w' := W) (v := ρ (.tmp 3)) rfl ⟨hJ, Below.refl _ _, hKn.2 12 _ 3 rfl rfl rfl⟩
      · refine Draw.Goes.plain rfl ?_
        have h0 : ρ (.tmp 1) = .pointer (some ⟨w.heap.size, 0, none⟩) := hKn.1.2 1 rfl
        refine Draw.Runs.value (w' := W) (v := .pointer (some ⟨w.heap.size, 6, none⟩)) ?_ ⟨hJ, Below.refl _ _, rfl⟩
        simp only [execOp]; go_simp
      · refine Draw.Goes.plain rfl ?_
        have h0 : ρ (.tmp 68) = .pointer (some ⟨w.heap.size, 6, none⟩) := hKn.1.get 1 68 rfl rfl
        have c : W.cell? ⟨w.heap.size, 6, none⟩ = some (.int .u64 first) := hJ.blk.cell _ rfl
        refine Draw.Runs.value (w' := W) (v := .int .u64 first) ?_ ⟨hJ, Below.refl _ _, rfl⟩
        simp only [execOp]; go_simp
      · refine Draw.Goes.plain rfl ?_
        have h0 : ρ (.tmp 69) = .int .u64 first := hKn.1.get 2 69 rfl rfl
        refine Draw.Runs.enter (f := 103) (args := #[.int .u64 first]) ?_ ((Hfirst.out W).mono fun e W' ⟨he, hb⟩ => ⟨_, he, hJ.call hb, hb, rfl⟩)
        simp only [execOp]; go_simp
      · refine Draw.Goes.plain rfl ?_
        have h0 : ρ (.tmp 67) = .string (pre) := hKn.1.get 0 67 rfl rfl
        have h1 : ρ (.tmp 70) = .string (bs (leB first 8)) := hKn.1.get 3 70 rfl rfl
        refine Draw.Runs.value (w' := W) (v := .string (pre ++ bs (leB first 8))) ?_ ⟨hJ, Below.refl _ _, rfl⟩
        simp only [execOp]; go_simp
        all_goals omega
      · refine Draw.Goes.plain rfl ?_
        have h0 : ρ (.tmp 1) = .pointer (some ⟨w.heap.size, 0, none⟩) := hKn.1.2 1 rfl
        refine Draw.Runs.value (w' := W) (v := .pointer (some ⟨w.heap.size, 8, none⟩)) ?_ ⟨hJ, Below.refl _ _, rfl⟩
        simp only [execOp]; go_simp
      · refine Draw.Goes.plain rfl ?_
        have h0 : ρ (.tmp 72) = .pointer (some ⟨w.heap.size, 8, none⟩) := hKn.1.get 5 72 rfl rfl
        have c : W.cell? ⟨w.heap.size, 8, none⟩ = some ((.slice bp m cp)) := hJ.blk.cell _ rfl
        refine Draw.Runs.value (w' := W) (v := (.slice bp m cp)) ?_ ⟨hJ, Below.refl _ _, rfl⟩
        simp only [execOp]; go_simp
      · refine Draw.Goes.plain rfl ?_
        have h0 : ρ (.tmp 73) = (.slice bp m cp) := hKn.1.get 6 73 rfl rfl
        refine Draw.Runs.value (w' := W) (v := .int .i64 m) ?_ ⟨hJ, Below.refl _ _, rfl⟩
        simp only [execOp]; go_simp
      · refine Draw.Goes.plain rfl ?_
        have h0 : ρ (.tmp 74) = .int .i64 m := hKn.1.get 7 74 rfl rfl
        refine Draw.Runs.value (w' := W) (v := .int .u8 m) ?_ ⟨hJ, Below.refl _ _, rfl⟩
        simp only [execOp]; go_simp
      · refine Draw.Goes.plain rfl ?_
        have h0 : ρ (.tmp 75) = .int .u8 m := hKn.1.get 8 75 rfl rfl
        refine Draw.Runs.value (w' := W.alloc (.cells ([UInt8.ofNat m].map bc).toArray 5)) (v := .slice (some ⟨W.heap.size, 0, none⟩) 1 1) ?_ ⟨hJ.call (bel_alloc _ _), bel_alloc _ _, W.heap.size, rfl, heap_alloc_new W _⟩
        rw [show ([UInt8.ofNat m].map bc).toArray = #[.int .u8 m] by simp [bc]; try omega]
        simp only [execOp]; go_simp
      · refine Draw.Goes.plain rfl ?_
        have h : Row1 [UInt8.ofNat m] W (ρ (.tmp 76)) := hKn.1.get 9 76 rfl rfl
        have hcv := h.conv (by show _ ≤ maxLen; unfold maxLen; simp)
        refine Draw.Runs.value (w' := W) (v := .string (bs [UInt8.ofNat m])) ?_ ⟨hJ, Below.refl _ _, rfl⟩
        simp only [execOp]; go_simp
      · refine Draw.Goes.plain rfl ?_
        have h0 : ρ (.tmp 71) = .string (pre ++ bs (leB first 8)) := hKn.1.get 4 71 rfl rfl
        have h1 : ρ (.tmp 77) = .string (bs [UInt8.ofNat m]) := hKn.1.get 10 77 rfl rfl
        refine Draw.Runs.value (w' := W) (v := .string (pre ++ bs (leB first 8) ++ bs [UInt8.ofNat m])) ?_ ⟨hJ, Below.refl _ _, rfl⟩
        simp only [execOp]; go_simp
        all_goals omega
      · refine Draw.Goes.plain rfl ?_
        exact Draw.Runs.value (w' := W) (v := ρ (.tmp 78)) rfl ⟨hJ, Below.refl _ _, hKn.1.get 11 78 rfl rfl⟩
    · intro u2 W hJ hf
      have r3 : u2 3 = .string (pre ++ bs (leB first 8) ++ bs [UInt8.ofNat m]) := hf 12 _ 3 rfl rfl
      simp only [List.foldl_cons, List.foldl_nil, List.setIfInBounds_toArray, List.set_cons_succ, List.set_cons_zero, r3]
      have zfull : (pre ++ bs (leB first 8) ++ bs [UInt8.ofNat m]).size = 35 := by simp only [ByteArray.size_append, zpre, zfirst, zcnt]
      have HFULL := Lib.hid hJ
      clear hJ hf HOLD zpre zfirst zcnt
      generalize pre ++ bs (leB first 8) ++ bs [UInt8.ofNat m] = full at *
      go_wp2_with fail
      go_loopw [3, 5] (fun s i wr => ∃ (j : Nat) (X : ByteArray), j ≤ m ∧ i = .int .i64 j ∧ s = .string X ∧ X = full ++ bs (flat (prs.take j)) ∧ Hold w (K.mk 4 player epoch dest count own first ins prs frame sum) (.slice bi n ci) (.slice bp m cp) wr) (fun _ i _ => m - (intOf i).toNat)
      case atStart => exact ⟨0, full, Nat.zero_le _, rfl, rfl, by simp [bs, flat, ByteArray.ext_iff], HFULL.out⟩
      case round =>
        obtain ⟨j, X, hj, rfl, rfl, hX, hJ⟩ := hrel
        have c8 : wr.cell? ⟨w.heap.size, 8, none⟩ = some ((.slice bp m cp)) := hJ.blk.cell _ rfl
        have zX : X.size ≤ 35 + 64 := by
          rw [hX, ByteArray.size_append, zfull, bs_size]
          rw [flat_length, List.length_take]; omega
        have HX := Lib.hid hX
        have HJ := Lib.hid hJ
        clear hX hJ
        by_cases hlt : j < m
        · obtain ⟨g, o, rfl, ha, h1, h2⟩ := HP.out j (by have := HL.out; omega)
          have hsn : flat (prs.take (j + 1)) = flat (prs.take j) ++ [(prs[j]'(by have := HL.out; omega)).1, (prs[j]'(by have := HL.out; omega)).2] := flat_snoc prs j _
          generalize prs[j]'(by have := HL.out; omega) = x at *
          have zx : (bs [x.1, x.2]).size = 2 := by rw [bs_size]; rfl
          have HS := Lib.hid hsn
          have H1 := Lib.hid h1
          have H2 := Lib.hid h2
          clear hsn h1 h2
          go_wp2_with fail
          refine Draw.wp_region_frame (Hold w (K.mk 4 player epoch dest count own first ins prs frame sum) (.slice bi n ci) (.slice (some ⟨g, o, none⟩) m cp)) (fun W W' => Below W.heap.size W W') (fun i W vv => match i with
              | 0 => vv = .string (X)
              | 1 => vv = .pointer (some ⟨w.heap.size, 8, none⟩)
              | 2 => vv = (.slice (some ⟨g, o, none⟩) m cp)
              | 3 => vv = .int .i64 j
              | 4 => vv = .pointer (some ⟨g, o + j * 2, none⟩)
              | 5 => vv = .pointer (some ⟨g, o + j * 2, none⟩)
              | 6 => vv = .int .u8 x.1.toNat
              | 7 => vv = .pointer (some ⟨w.heap.size, 8, none⟩)
              | 8 => vv = (.slice (some ⟨g, o, none⟩) m cp)
              | 9 => vv = .int .i64 j
              | 10 => vv = .pointer (some ⟨g, o + j * 2, none⟩)
              | 11 => vv = .pointer (some ⟨g, o + j * 2 + 1, none⟩)
              | 12 => vv = .int .u8 x.2.toNat
              | 13 => Row1 [x.1, x.2] W vv
              | 14 => vv = .string (bs [x.1, x.2])
              | 15 => vv = .string (X ++ bs [x.1, x.2])
              | _ => vv = .string (X ++ bs [x.1, x.2])) (by kernel_rfl) (by kernel_rfl) (by decide) rfl ?_ ⟨HJ.out.blk, HJ.out.bel.drew⟩ ?_ [86, 87, 88, 89, 90, 91, 92, 93, 94, 95, 96, 97, 98, 99, 100, 101, 3] (by rfl) ?_
          · intro i W W' vv he hf
            match i with
            | 13 => exact Row1.call hf he
            | 0 | 1 | 2 | 3 | 4 | 5 | 6 | 7 | 8 | 9 | 10 | 11 | 12 | 14 | 15 | n + 16 => exact hf
          · refine ⟨?_, ?_, ?_, ?_, ?_, ?_, ?_, ?_, ?_, ?_, ?_, ?_, ?_, ?_, ?_, ?_, ?_, trivial⟩
            all_goals intro ρ W hJ hc hf hKn
            · refine Draw.Goes.plain rfl ?_
              exact Draw.Runs.value (w' := W) (v := ρ (.tmp 3)) rfl ⟨hJ, Below.refl _ _, hKn.2 16 _ 3 rfl rfl rfl⟩
            · refine Draw.Goes.plain rfl ?_
              have h0 : ρ (.tmp 1) = .pointer (some ⟨w.heap.size, 0, none⟩) := hKn.1.2 1 rfl
              refine Draw.Runs.value (w' := W) (v := .pointer (some ⟨w.heap.size, 8, none⟩)) ?_ ⟨hJ, Below.refl _ _, rfl⟩
              simp only [execOp]; go_simp
            · refine Draw.Goes.plain rfl ?_
              have h0 : ρ (.tmp 87) = .pointer (some ⟨w.heap.size, 8, none⟩) := hKn.1.get 1 87 rfl rfl
              have c : W.cell? ⟨w.heap.size, 8, none⟩ = some ((.slice (some ⟨g, o, none⟩) m cp)) := hJ.blk.cell _ rfl
              refine Draw.Runs.value (w' := W) (v := (.slice (some ⟨g, o, none⟩) m cp)) ?_ ⟨hJ, Below.refl _ _, rfl⟩
              simp only [execOp]; go_simp
            · refine Draw.Goes.plain rfl ?_
              exact Draw.Runs.value (w' := W) (v := ρ (.tmp 5)) rfl ⟨hJ, Below.refl _ _, hKn.1.2 5 rfl⟩
            · refine Draw.Goes.plain rfl ?_
              have h0 : ρ (.tmp 88) = (.slice (some ⟨g, o, none⟩) m cp) := hKn.1.get 2 88 rfl rfl
              have h1 : ρ (.tmp 89) = .int .i64 j := hKn.1.get 3 89 rfl rfl
              refine Draw.Runs.value (w' := W) (v := .pointer (some ⟨g, o + j * 2, none⟩)) ?_ ⟨hJ, Below.refl _ _, rfl⟩
              simp only [execOp]; go_simp
            · refine Draw.Goes.plain rfl ?_
              have h0 : ρ (.tmp 90) = .pointer (some ⟨g, o + j * 2, none⟩) := hKn.1.get 4 90 rfl rfl
              refine Draw.Runs.value (w' := W) (v := .pointer (some ⟨g, o + j * 2, none⟩)) ?_ ⟨hJ, Below.refl _ _, rfl⟩
              simp only [execOp]; go_simp
            · refine Draw.Goes.plain rfl ?_
              have h0 : ρ (.tmp 91) = .pointer (some ⟨g, o + j * 2, none⟩) := hKn.1.get 5 91 rfl rfl
              have c : W.cell? ⟨g, o + j * 2, none⟩ = some (.int .u8 x.1.toNat) := (hJ.bel.cell (p := ⟨g, o + j * 2, none⟩) ha).trans H1.out
              refine Draw.Runs.value (w' := W) (v := .int .u8 x.1.toNat) ?_ ⟨hJ, Below.refl _ _, rfl⟩
              simp only [execOp]; go_simp
            · refine Draw.Goes.plain rfl ?_
              have h0 : ρ (.tmp 1) = .pointer (some ⟨w.heap.size, 0, none⟩) := hKn.1.2 1 rfl
              refine Draw.Runs.value (w' := W) (v := .pointer (some ⟨w.heap.size, 8, none⟩)) ?_ ⟨hJ, Below.refl _ _, rfl⟩
              simp only [execOp]; go_simp
            · refine Draw.Goes.plain rfl ?_
              have h0 : ρ (.tmp 93) = .pointer (some ⟨w.heap.size, 8, none⟩) := hKn.1.get 7 93 rfl rfl
              have c : W.cell? ⟨w.heap.size, 8, none⟩ = some ((.slice (some ⟨g, o, none⟩) m cp)) := hJ.blk.cell _ rfl
              refine Draw.Runs.value (w' := W) (v := (.slice (some ⟨g, o, none⟩) m cp)) ?_ ⟨hJ, Below.refl _ _, rfl⟩
              simp only [execOp]; go_simp
            · refine Draw.Goes.plain rfl ?_
              exact Draw.Runs.value (w' := W) (v := ρ (.tmp 5)) rfl ⟨hJ, Below.refl _ _, hKn.1.2 5 rfl⟩
            · refine Draw.Goes.plain rfl ?_
              have h0 : ρ (.tmp 94) = (.slice (some ⟨g, o, none⟩) m cp) := hKn.1.get 8 94 rfl rfl
              have h1 : ρ (.tmp 95) = .int .i64 j := hKn.1.get 9 95 rfl rfl
              refine Draw.Runs.value (w' := W) (v := .pointer (some ⟨g, o + j * 2, none⟩)) ?_ ⟨hJ, Below.refl _ _, rfl⟩
              simp only [execOp]; go_simp
            · refine Draw.Goes.plain rfl ?_
              have h0 : ρ (.tmp 96) = .pointer (some ⟨g, o + j * 2, none⟩) := hKn.1.get 10 96 rfl rfl
              refine Draw.Runs.value (w' := W) (v := .pointer (some ⟨g, o + j * 2 + 1, none⟩)) ?_ ⟨hJ, Below.refl _ _, rfl⟩
              simp only [execOp]; go_simp
            · refine Draw.Goes.plain rfl ?_
              have h0 : ρ (.tmp 97) = .pointer (some ⟨g, o + j * 2 + 1, none⟩) := hKn.1.get 11 97 rfl rfl
              have c : W.cell? ⟨g, o + j * 2 + 1, none⟩ = some (.int .u8 x.2.toNat) := (hJ.bel.cell (p := ⟨g, o + j * 2 + 1, none⟩) ha).trans H2.out
              refine Draw.Runs.value (w' := W) (v := .int .u8 x.2.toNat) ?_ ⟨hJ, Below.refl _ _, rfl⟩
              simp only [execOp]; go_simp
            · refine Draw.Goes.plain rfl ?_
              have h0 : ρ (.tmp 92) = .int .u8 x.1.toNat := hKn.1.get 6 92 rfl rfl
              have h1 : ρ (.tmp 98) = .int .u8 x.2.toNat := hKn.1.get 12 98 rfl rfl
              refine Draw.Runs.value (w' := W.alloc (.cells ([x.1, x.2].map bc).toArray 5)) (v := .slice (some ⟨W.heap.size, 0, none⟩) 2 2) ?_ ⟨hJ.call (bel_alloc _ _), bel_alloc _ _, W.heap.size, rfl, heap_alloc_new W _⟩
              rw [show ([x.1, x.2].map bc).toArray = #[.int .u8 x.1.toNat, .int .u8 x.2.toNat] by simp [bc]; try omega]
              simp only [execOp]; go_simp
            · refine Draw.Goes.plain rfl ?_
              have h : Row1 [x.1, x.2] W (ρ (.tmp 99)) := hKn.1.get 13 99 rfl rfl
              have hcv := h.conv (by show _ ≤ maxLen; unfold maxLen; simp)
              refine Draw.Runs.value (w' := W) (v := .string (bs [x.1, x.2])) ?_ ⟨hJ, Below.refl _ _, rfl⟩
              simp only [execOp]; go_simp
            · refine Draw.Goes.plain rfl ?_
              have h0 : ρ (.tmp 86) = .string (X) := hKn.1.get 0 86 rfl rfl
              have h1 : ρ (.tmp 100) = .string (bs [x.1, x.2]) := hKn.1.get 14 100 rfl rfl
              refine Draw.Runs.value (w' := W) (v := .string (X ++ bs [x.1, x.2])) ?_ ⟨hJ, Below.refl _ _, rfl⟩
              simp only [execOp]; go_simp
              all_goals omega
            · refine Draw.Goes.plain rfl ?_
              exact Draw.Runs.value (w' := W) (v := ρ (.tmp 101)) rfl ⟨hJ, Below.refl _ _, hKn.1.get 15 101 rfl rfl⟩
          · intro u3 W hJ hf
            have r3 : u3 3 = .string (X ++ bs [x.1, x.2]) := hf 16 _ 3 rfl rfl
            simp only [List.foldl_cons, List.foldl_nil, List.setIfInBounds_toArray, List.set_cons_succ, List.set_cons_zero, r3]
            have HW := Lib.hid hJ
            clear hJ hf
            go_wp2
            go_roundw
            case rel => exact ⟨j + 1, X ++ bs [x.1, x.2], by omega, by go_num, rfl, by rw [HX.out, HS.out, ← bs_app, ByteArray.append_assoc], HW.out⟩
            case measure => simp [intOf]; omega
        · obtain rfl : j = m := by omega
          have he : bs (flat (prs.take j)) = bs (flat prs) := by rw [List.take_of_length_le (by have := HL.out; omega)]
          have HE := Lib.hid he
          clear he
          go_wp2
          go_ret
          exact ⟨ret_str (by rw [HX.out, HE.out, HF.out]), HJ.out.bel⟩
set_option maxRecDepth 100000 in
set_option maxHeartbeats 4000000 in
theorem rpay_5 (player epoch dest count own first : Nat) (ins : List UInt8) (prs : List (UInt8 × UInt8)) (frame sum : Nat) (vi vp : Value) (w : World) (hk : (K.mk 5 player epoch dest count own first ins prs frame sum).wf) (hi : Ins w vi ins) (hp : Prs w vp prs) (hli : ins.length ≤ 32) (hlp : prs.length ≤ 32) :
    Calls Tryd.prog 62 #[.agg (pc (K.mk 5 player epoch dest count own first ins prs frame sum) vi vp)] w fun e w' => e = .returned (.string (bs (K.mk 5 player epoch dest count own first ins prs frame sum).pay)) ∧ Below w.heap.size w w' := by
  have hplayer : player < 256 := hk.player
  have hepoch : epoch < 18446744073709551616 := hk.epoch
  have hdest : dest < 18446744073709551616 := hk.dest
  have hcount : count < 18446744073709551616 := hk.count
  have hframe : frame < 18446744073709551616 := hk.frame
  have hsum : sum < 18446744073709551616 := hk.sum
  have Hepoch := Lib.hid (fun W => long_any epoch W hepoch)
  have Hdest := Lib.hid (fun W => long_any dest W hdest)
  have Hcount := Lib.hid (fun W => long_any count W hcount)
  have Hframe := Lib.hid (fun W => long_any frame W hframe)
  have Hsum := Lib.hid (fun W => long_any sum W hsum)
  have zepoch : (bs (leB epoch 8)).size = 8 := by rw [bs_size, leB_length]
  have zdest : (bs (leB dest 8)).size = 8 := by rw [bs_size, leB_length]
  have zcount : (bs (leB count 8)).size = 8 := by rw [bs_size, leB_length]
  have zframe : (bs (leB frame 8)).size = 8 := by rw [bs_size, leB_length]
  have zsum : (bs (leB sum 8)).size = 8 := by rw [bs_size, leB_length]
  have zhead : (bs [5, UInt8.ofNat player]).size = 2 := by rw [bs_size]; rfl
  have hkw : IntKind.u8.wrap 5 = 5 := rfl
  obtain ⟨bi, ci, rfl, _, hci⟩ := hi
  obtain ⟨bp, cp, rfl, _, hcp⟩ := hp
  have HI := Lib.hid hci
  have HP := Lib.hid hcp
  obtain ⟨n, hn⟩ : ∃ n, n = ins.length := ⟨_, rfl⟩
  obtain ⟨m, hm⟩ : ∃ m, m = prs.length := ⟨_, rfl⟩
  rw [← hn] at hli ⊢
  rw [← hm] at hlp ⊢
  have hfin : bs [5, UInt8.ofNat player] ++ bs (leB epoch 8) ++ bs (leB dest 8) ++ bs (leB count 8) ++ bs (leB frame 8) ++ bs (leB sum 8) = bs (K.mk 5 player epoch dest count own first ins prs frame sum).pay := by
    simp only [bs_app]
    congr 1
    simp [K.pay, K.body, K.tail, leB_one hplayer]
  have HF := Lib.hid hfin
  clear hfin hk HI HP hci hcp hn hm
  go_enter Tryd.func62, Tryd.ntmps62
  go_wp2_with fail
  have hJ : Hold w (K.mk 5 player epoch dest count own first ins prs frame sum) (.slice bi n ci) (.slice bp m cp) (w.alloc (.cells (pc (K.mk 5 player epoch dest count own first ins prs frame sum) (.slice bi n ci) (.slice bp m cp)) 34)) := ⟨heap_alloc_new w _, bel_alloc w _⟩
  dsimp only [pc] at hJ
  refine Draw.wp_region_frame (Hold w (K.mk 5 player epoch dest count own first ins prs frame sum) (.slice bi n ci) (.slice bp m cp)) (fun W W' => Below W.heap.size W W') (fun i W vv => match i with
      | 0 => vv = .pointer (some ⟨w.heap.size, 0, none⟩)
      | 1 => vv = .int .i64 5
      | 2 => vv = .int .u8 5
      | 3 => vv = .pointer (some ⟨w.heap.size, 1, none⟩)
      | 4 => vv = .int .u8 player
      | 5 => Row1 [5, UInt8.ofNat player] W vv
      | 6 => vv = .string (bs [5, UInt8.ofNat player])
      | 7 => vv = .pointer (some ⟨w.heap.size, 2, none⟩)
      | 8 => vv = .int .u64 epoch
      | 9 => vv = .string (bs (leB epoch 8))
      | 10 => vv = .string (bs [5, UInt8.ofNat player] ++ bs (leB epoch 8))
      | 11 => vv = .pointer (some ⟨w.heap.size, 3, none⟩)
      | 12 => vv = .int .u64 dest
      | 13 => vv = .string (bs (leB dest 8))
      | 14 => vv = .string (bs [5, UInt8.ofNat player] ++ bs (leB epoch 8) ++ bs (leB dest 8))
      | 15 => vv = .pointer (some ⟨w.heap.size, 4, none⟩)
      | 16 => vv = .int .u64 count
      | 17 => vv = .string (bs (leB count 8))
      | 18 => vv = .string (bs [5, UInt8.ofNat player] ++ bs (leB epoch 8) ++ bs (leB dest 8) ++ bs (leB count 8))
      | _ => vv = .string (bs [5, UInt8.ofNat player] ++ bs (leB epoch 8) ++ bs (leB dest 8) ++ bs (leB count 8))) (by kernel_rfl) (by kernel_rfl) (by decide) rfl ?_ ⟨hJ.blk, hJ.bel.drew⟩ ?_ [6, 7, 8, 9, 10, 11, 12, 13, 14, 15, 16, 17, 18, 19, 20, 21, 22, 23, 24, 3] (by rfl) ?_
  · intro i W W' vv he hf
    match i with
    | 5 => exact Row1.call hf he
    | 0 | 1 | 2 | 3 | 4 | 6 | 7 | 8 | 9 | 10 | 11 | 12 | 13 | 14 | 15 | 16 | 17 | 18 | n + 19 => exact hf
  · refine ⟨?_, ?_, ?_, ?_, ?_, ?_, ?_, ?_, ?_, ?_, ?_, ?_, ?_, ?_, ?_, ?_, ?_, ?_, ?_, ?_, trivial⟩
    all_goals intro ρ W hJ hc hf hKn
    · refine Draw.Goes.plain rfl ?_
      have h0 : ρ (.tmp 1) = .pointer (some ⟨w.heap.size, 0, none⟩) := hKn.1.2 1 rfl
      refine Draw.Runs.value (w' := W) (v := .pointer (some ⟨w.heap.size, 0, none⟩)) ?_ ⟨hJ, Below.refl _ _, rfl⟩
      simp only [execOp]; go_simp
    · refine Draw.Goes.plain rfl ?_
      have h0 : ρ (.tmp 6) = .pointer (some ⟨w.heap.size, 0, none⟩) := hKn.1.get 0 6 rfl rfl
      have c : W.cell? ⟨w.heap.size, 0, none⟩ = some (.int .i64 5) := hJ.blk.cell _ rfl
      refine Draw.Runs.value (w' := W) (v := .int .i64 5) ?_ ⟨hJ, Below.refl _ _, rfl⟩
      simp only [execOp]; go_simp
    · refine Draw.Goes.plain rfl ?_
      have h0 : ρ (.tmp 7) = .int .i64 5 := hKn.1.get 1 7 rfl rfl
      refine Draw.Runs.value (w' := W) (v := .int .u8 5) ?_ ⟨hJ, Below.refl _ _, rfl⟩
      simp only [execOp]; go_simp
    · refine Draw.Goes.plain rfl ?_
      have h0 : ρ (.tmp 1) = .pointer (some ⟨w.heap.size, 0, none⟩) := hKn.1.2 1 rfl
      refine Draw.Runs.value (w' := W) (v := .pointer (some ⟨w.heap.size, 1, none⟩)) ?_ ⟨hJ, Below.refl _ _, rfl⟩
      simp only [execOp]; go_simp
    · refine Draw.Goes.plain rfl ?_
      have h0 : ρ (.tmp 9) = .pointer (some ⟨w.heap.size, 1, none⟩) := hKn.1.get 3 9 rfl rfl
      have c : W.cell? ⟨w.heap.size, 1, none⟩ = some (.int .u8 player) := hJ.blk.cell _ rfl
      refine Draw.Runs.value (w' := W) (v := .int .u8 player) ?_ ⟨hJ, Below.refl _ _, rfl⟩
      simp only [execOp]; go_simp
    · refine Draw.Goes.plain rfl ?_
      have h0 : ρ (.tmp 8) = .int .u8 5 := hKn.1.get 2 8 rfl rfl
      have h1 : ρ (.tmp 10) = .int .u8 player := hKn.1.get 4 10 rfl rfl
      refine Draw.Runs.value (w' := W.alloc (.cells ([5, UInt8.ofNat player].map bc).toArray 5)) (v := .slice (some ⟨W.heap.size, 0, none⟩) 2 2) ?_ ⟨hJ.call (bel_alloc _ _), bel_alloc _ _, W.heap.size, rfl, heap_alloc_new W _⟩
      rw [show ([5, UInt8.ofNat player].map bc).toArray = #[.int .u8 5, .int .u8 player] by simp [bc]; try omega]
      simp only [execOp]; go_simp
    · refine Draw.Goes.plain rfl ?_
      have h : Row1 [5, UInt8.ofNat player] W (ρ (.tmp 11)) := hKn.1.get 5 11 rfl rfl
      have hcv := h.conv (by show _ ≤ maxLen; unfold maxLen; simp)
      refine Draw.Runs.value (w' := W) (v := .string (bs [5, UInt8.ofNat player])) ?_ ⟨hJ, Below.refl _ _, rfl⟩
      simp only [execOp]; go_simp
    · refine Draw.Goes.plain rfl ?_
      have h0 : ρ (.tmp 1) = .pointer (some ⟨w.heap.size, 0, none⟩) := hKn.1.2 1 rfl
      refine Draw.Runs.value (w' := W) (v := .pointer (some ⟨w.heap.size, 2, none⟩)) ?_ ⟨hJ, Below.refl _ _, rfl⟩
      simp only [execOp]; go_simp
    · refine Draw.Goes.plain rfl ?_
      have h0 : ρ (.tmp 13) = .pointer (some ⟨w.heap.size, 2, none⟩) := hKn.1.get 7 13 rfl rfl
      have c : W.cell? ⟨w.heap.size, 2, none⟩ = some (.int .u64 epoch) := hJ.blk.cell _ rfl
      refine Draw.Runs.value (w' := W) (v := .int .u64 epoch) ?_ ⟨hJ, Below.refl _ _, rfl⟩
      simp only [execOp]; go_simp
    · refine Draw.Goes.plain rfl ?_
      have h0 : ρ (.tmp 14) = .int .u64 epoch := hKn.1.get 8 14 rfl rfl
      refine Draw.Runs.enter (f := 103) (args := #[.int .u64 epoch]) ?_ ((Hepoch.out W).mono fun e W' ⟨he, hb⟩ => ⟨_, he, hJ.call hb, hb, rfl⟩)
      simp only [execOp]; go_simp
    · refine Draw.Goes.plain rfl ?_
      have h0 : ρ (.tmp 12) = .string (bs [5, UInt8.ofNat player]) := hKn.1.get 6 12 rfl rfl
      have h1 : ρ (.tmp 15) = .string (bs (leB epoch 8)) := hKn.1.get 9 15 rfl rfl
      refine Draw.Runs.value (w' := W) (v := .string (bs [5, UInt8.ofNat player] ++ bs (leB epoch 8))) ?_ ⟨hJ, Below.refl _ _, rfl⟩
      simp only [execOp]; go_simp
      all_goals omega
    · refine Draw.Goes.plain rfl ?_
      have h0 : ρ (.tmp 1) = .pointer (some ⟨w.heap.size, 0, none⟩) := hKn.1.2 1 rfl
      refine Draw.Runs.value (w' := W) (v := .pointer (some ⟨w.heap.size, 3, none⟩)) ?_ ⟨hJ, Below.refl _ _, rfl⟩
      simp only [execOp]; go_simp
    · refine Draw.Goes.plain rfl ?_
      have h0 : ρ (.tmp 17) = .pointer (some ⟨w.heap.size, 3, none⟩) := hKn.1.get 11 17 rfl rfl
      have c : W.cell? ⟨w.heap.size, 3, none⟩ = some (.int .u64 dest) := hJ.blk.cell _ rfl
      refine Draw.Runs.value (w' := W) (v := .int .u64 dest) ?_ ⟨hJ, Below.refl _ _, rfl⟩
      simp only [execOp]; go_simp
    · refine Draw.Goes.plain rfl ?_
      have h0 : ρ (.tmp 18) = .int .u64 dest := hKn.1.get 12 18 rfl rfl
      refine Draw.Runs.enter (f := 103) (args := #[.int .u64 dest]) ?_ ((Hdest.out W).mono fun e W' ⟨he, hb⟩ => ⟨_, he, hJ.call hb, hb, rfl⟩)
      simp only [execOp]; go_simp
    · refine Draw.Goes.plain rfl ?_
      have h0 : ρ (.tmp 16) = .string (bs [5, UInt8.ofNat player] ++ bs (leB epoch 8)) := hKn.1.get 10 16 rfl rfl
      have h1 : ρ (.tmp 19) = .string (bs (leB dest 8)) := hKn.1.get 13 19 rfl rfl
      refine Draw.Runs.value (w' := W) (v := .string (bs [5, UInt8.ofNat player] ++ bs (leB epoch 8) ++ bs (leB dest 8))) ?_ ⟨hJ, Below.refl _ _, rfl⟩
      simp only [execOp]; go_simp
      all_goals omega
    · refine Draw.Goes.plain rfl ?_
      have h0 : ρ (.tmp 1) = .pointer (some ⟨w.heap.size, 0, none⟩) := hKn.1.2 1 rfl
      refine Draw.Runs.value (w' := W) (v := .pointer (some ⟨w.heap.size, 4, none⟩)) ?_ ⟨hJ, Below.refl _ _, rfl⟩
      simp only [execOp]; go_simp
    · refine Draw.Goes.plain rfl ?_
      have h0 : ρ (.tmp 21) = .pointer (some ⟨w.heap.size, 4, none⟩) := hKn.1.get 15 21 rfl rfl
      have c : W.cell? ⟨w.heap.size, 4, none⟩ = some (.int .u64 count) := hJ.blk.cell _ rfl
      refine Draw.Runs.value (w' := W) (v := .int .u64 count) ?_ ⟨hJ, Below.refl _ _, rfl⟩
      simp only [execOp]; go_simp
    · refine Draw.Goes.plain rfl ?_
      have h0 : ρ (.tmp 22) = .int .u64 count := hKn.1.get 16 22 rfl rfl
      refine Draw.Runs.enter (f := 103) (args := #[.int .u64 count]) ?_ ((Hcount.out W).mono fun e W' ⟨he, hb⟩ => ⟨_, he, hJ.call hb, hb, rfl⟩)
      simp only [execOp]; go_simp
    · refine Draw.Goes.plain rfl ?_
      have h0 : ρ (.tmp 20) = .string (bs [5, UInt8.ofNat player] ++ bs (leB epoch 8) ++ bs (leB dest 8)) := hKn.1.get 14 20 rfl rfl
      have h1 : ρ (.tmp 23) = .string (bs (leB count 8)) := hKn.1.get 17 23 rfl rfl
      refine Draw.Runs.value (w' := W) (v := .string (bs [5, UInt8.ofNat player] ++ bs (leB epoch 8) ++ bs (leB dest 8) ++ bs (leB count 8))) ?_ ⟨hJ, Below.refl _ _, rfl⟩
      simp only [execOp]; go_simp
      all_goals omega
    · refine Draw.Goes.plain rfl ?_
      exact Draw.Runs.value (w' := W) (v := ρ (.tmp 24)) rfl ⟨hJ, Below.refl _ _, hKn.1.get 18 24 rfl rfl⟩
  · intro u W hJ hf
    have r3 : u 3 = .string (bs [5, UInt8.ofNat player] ++ bs (leB epoch 8) ++ bs (leB dest 8) ++ bs (leB count 8)) := hf 19 _ 3 rfl rfl
    simp only [List.foldl_cons, List.foldl_nil, List.setIfInBounds_toArray, List.set_cons_succ, List.set_cons_zero, r3]
    have c0 : W.cell? ⟨w.heap.size, 0, none⟩ = some (.int .i64 5) := hJ.blk.cell _ rfl
    have zpre : (bs [5, UInt8.ofNat player] ++ bs (leB epoch 8) ++ bs (leB dest 8) ++ bs (leB count 8)).size = 26 := by simp only [ByteArray.size_append, zhead, zepoch, zdest, zcount]
    have HOLD := Lib.hid hJ
    clear hJ hf zhead zepoch zdest zcount Hepoch Hdest Hcount
    generalize bs [5, UInt8.ofNat player] ++ bs (leB epoch 8) ++ bs (leB dest 8) ++ bs (leB count 8) = pre at *
    go_wp2_with fail
    refine Draw.wp_region_frame (Hold w (K.mk 5 player epoch dest count own first ins prs frame sum) (.slice bi n ci) (.slice bp m cp)) (fun W W' => Below W.heap.size W W') (fun i W vv => match i with
        | 0 => vv = .string (pre)
        | 1 => vv = .pointer (some ⟨w.heap.size, 9, none⟩)
        | 2 => vv = .int .u64 frame
        | 3 => vv = .string (bs (leB frame 8))
        | 4 => vv = .string (pre ++ bs (leB frame 8))
        | 5 => vv = .pointer (some ⟨w.heap.size, 10, none⟩)
        | 6 => vv = .int .u64 sum
        | 7 => vv = .string (bs (leB sum 8))
        | 8 => vv = .string (pre ++ bs (leB frame 8) ++ bs (leB sum 8))
        | _ => vv = .string (pre ++ bs (leB frame 8) ++ bs (leB sum 8))) (by kernel_rfl) (by kernel_rfl) (by decide) rfl ?_ ⟨HOLD.out.blk, HOLD.out.bel.drew⟩ ?_ [104, 105, 106, 107, 108, 109, 110, 111, 112, 3] (by rfl) ?_
    · intro i W W' vv he hf
      exact hf
    · refine ⟨?_, ?_, ?_, ?_, ?_, ?_, ?_, ?_, ?_, ?_, trivial⟩
      all_goals intro ρ W hJ hc hf hKn
      · refine Draw.Goes.plain rfl ?_
        exact Draw.Runs.value (w' := W) (v := ρ (.tmp 3)) rfl ⟨hJ, Below.refl _ _, hKn.2 9 _ 3 rfl rfl rfl⟩
      · refine Draw.Goes.plain rfl ?_
        have h0 : ρ (.tmp 1) = .pointer (some ⟨w.heap.size, 0, none⟩) := hKn.1.2 1 rfl
        refine Draw.Runs.value (w' := W) (v := .pointer (some ⟨w.heap.size, 9, none⟩)) ?_ ⟨hJ, Below.refl _ _, rfl⟩
        simp only [execOp]; go_simp
      · refine Draw.Goes.plain rfl ?_
        have h0 : ρ (.tmp 105) = .pointer (some ⟨w.heap.size, 9, none⟩) := hKn.1.get 1 105 rfl rfl
        have c : W.cell? ⟨w.heap.size, 9, none⟩ = some (.int .u64 frame) := hJ.blk.cell _ rfl
        refine Draw.Runs.value (w' := W) (v := .int .u64 frame) ?_ ⟨hJ, Below.refl _ _, rfl⟩
        simp only [execOp]; go_simp
      · refine Draw.Goes.plain rfl ?_
        have h0 : ρ (.tmp 106) = .int .u64 frame := hKn.1.get 2 106 rfl rfl
        refine Draw.Runs.enter (f := 103) (args := #[.int .u64 frame]) ?_ ((Hframe.out W).mono fun e W' ⟨he, hb⟩ => ⟨_, he, hJ.call hb, hb, rfl⟩)
        simp only [execOp]; go_simp
      · refine Draw.Goes.plain rfl ?_
        have h0 : ρ (.tmp 104) = .string (pre) := hKn.1.get 0 104 rfl rfl
        have h1 : ρ (.tmp 107) = .string (bs (leB frame 8)) := hKn.1.get 3 107 rfl rfl
        refine Draw.Runs.value (w' := W) (v := .string (pre ++ bs (leB frame 8))) ?_ ⟨hJ, Below.refl _ _, rfl⟩
        simp only [execOp]; go_simp
        all_goals omega
      · refine Draw.Goes.plain rfl ?_
        have h0 : ρ (.tmp 1) = .pointer (some ⟨w.heap.size, 0, none⟩) := hKn.1.2 1 rfl
        refine Draw.Runs.value (w' := W) (v := .pointer (some ⟨w.heap.size, 10, none⟩)) ?_ ⟨hJ, Below.refl _ _, rfl⟩
        simp only [execOp]; go_simp
      · refine Draw.Goes.plain rfl ?_
        have h0 : ρ (.tmp 109) = .pointer (some ⟨w.heap.size, 10, none⟩) := hKn.1.get 5 109 rfl rfl
        have c : W.cell? ⟨w.heap.size, 10, none⟩ = some (.int .u64 sum) := hJ.blk.cell _ rfl
        refine Draw.Runs.value (w' := W) (v := .int .u64 sum) ?_ ⟨hJ, Below.refl _ _, rfl⟩
        simp only [execOp]; go_simp
      · refine Draw.Goes.plain rfl ?_
        have h0 : ρ (.tmp 110) = .int .u64 sum := hKn.1.get 6 110 rfl rfl
        refine Draw.Runs.enter (f := 103) (args := #[.int .u64 sum]) ?_ ((Hsum.out W).mono fun e W' ⟨he, hb⟩ => ⟨_, he, hJ.call hb, hb, rfl⟩)
        simp only [execOp]; go_simp
      · refine Draw.Goes.plain rfl ?_
        have h0 : ρ (.tmp 108) = .string (pre ++ bs (leB frame 8)) := hKn.1.get 4 108 rfl rfl
        have h1 : ρ (.tmp 111) = .string (bs (leB sum 8)) := hKn.1.get 7 111 rfl rfl
        refine Draw.Runs.value (w' := W) (v := .string (pre ++ bs (leB frame 8) ++ bs (leB sum 8))) ?_ ⟨hJ, Below.refl _ _, rfl⟩
        simp only [execOp]; go_simp
        all_goals omega
      · refine Draw.Goes.plain rfl ?_
        exact Draw.Runs.value (w' := W) (v := ρ (.tmp 112)) rfl ⟨hJ, Below.refl _ _, hKn.1.get 8 112 rfl rfl⟩
    · intro u2 W hJ hf
      have r3 : u2 3 = .string (pre ++ bs (leB frame 8) ++ bs (leB sum 8)) := hf 9 _ 3 rfl rfl
      simp only [List.foldl_cons, List.foldl_nil, List.setIfInBounds_toArray, List.set_cons_succ, List.set_cons_zero, r3]
      have HB := Lib.hid hJ.bel
      clear hJ hf
      go_wp2
      go_ret
      exact ⟨ret_str HF.out, HB.out⟩
end Go.Proofs.YtdgbililgkhjfaaDoor.Pk
