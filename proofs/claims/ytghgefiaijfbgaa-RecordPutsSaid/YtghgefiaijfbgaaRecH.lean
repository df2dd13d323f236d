/- What the document's 'Put' answers: walked. Conditions: the numbers are what their types bear. -/
import Derived.Test.YtghgefiaijfbgaaRecG
import Derived.Test.YtghgefiaijfbgaaDraw
namespace Go.Proofs.Ytghgefiaijfbgaa.Rec
open Go.RowKit Go.Proofs.Ytghgefiaijfbgaa.Crc Go.Proofs.Ytghgefiaijfbgaa.Codec
set_option linter.unusedVariables false
theorem bcell {W w1 : World} (hb : Below W.heap.size W w1) : (∀ b o, b < W.heap.size → w1.cell? ⟨b, o, none⟩ = W.cell? ⟨b, o, none⟩) ∧ (∀ b o, b < W.heap.size → w1.frozen? ⟨b, o, none⟩ = W.frozen? ⟨b, o, none⟩) :=
  ⟨fun b o h => hb.cell (p := ⟨b, o, none⟩) h, fun b o h => hb.frozen (p := ⟨b, o, none⟩) h⟩
theorem conv1 (n : Nat) (hn : n < 256) (W : World) (g : Nat) (hc : W.cell? ⟨g, 0, none⟩ = some (.int .u8 n)) :
    (convert 46 9 (.slice (some ⟨g, 0, none⟩) 1 1)).run Try.prog W = .ok (.string (bs [UInt8.ofNat n])) W := by
  have hr := run_convert_bytes_arg W 46 5 Try.underlying46 Try.underlying5 g 0 1 1 [(n : Int)] rfl (fun i hi => by
    obtain rfl : i = 0 := by omega
    exact hc) 9 Try.underlying9
  rw [hr]
  congr 2
theorem bs_app (l m : List UInt8) : bs l ++ bs m = bs (l ++ m) := by
  apply ByteArray.ext
  simp [bs]
/-- What a drawn region keeps: the record's block, and all below. -/
structure Hold (w : World) (r : R) (W : World) : Prop where
  blk : Blk W w.heap.size (rc r) 33
  bel : Below w.heap.size w W
theorem Hold.call {w W W' : World} {r : R} (h : Hold w r W) (hb : Below W.heap.size W W') : Hold w r W' :=
  ⟨(hb.block _ h.blk.lt).trans h.blk, h.bel.trans (hb.mono (Nat.le_of_lt h.blk.lt))⟩
theorem bel_alloc (W : World) (o : Obj) : Below W.heap.size W (W.alloc o) := (Below.refl _ W).alloc (Nat.le_refl _) o
/-- A row of n bytes of its own. -/
def Row1 (L : List UInt8) (W : World) (v : Value) : Prop := ∃ g, v = .slice (some ⟨g, 0, none⟩) L.length L.length ∧ Blk W g (L.map bc).toArray 5
theorem conv_row {W : World} {g : Nat} {L : List UInt8} (hl : L.length ≤ maxLen) (hb : Blk W g (L.map bc).toArray 5) :
    (convert 46 9 (.slice (some ⟨g, 0, none⟩) L.length L.length)).run Try.prog W = .ok (.string (bs L)) W :=
  own_conv (B := g) (n := L.length) ⟨by simp, .inr ⟨g, L.length, (L.map bc).toArray, rfl, Nat.le_refl _, hb, Nat.le_refl _, hl, by simp, by simp only [Nat.mul_one]; exact List.take_of_length_le (by simp)⟩⟩
theorem Row1.conv {L : List UInt8} {W : World} {v : Value} (hl : L.length ≤ maxLen) (h : Row1 L W v) : (convert 46 9 v).run Try.prog W = .ok (.string (bs L)) W := by
  obtain ⟨g, rfl, hb⟩ := h
  exact conv_row hl hb
theorem Row1.call {L : List UInt8} {W W' : World} {v : Value} (h : Row1 L W v) (hb : Below W.heap.size W W') : Row1 L W' v := by
  obtain ⟨g, h1, h2⟩ := h
  exact ⟨g, h1, (hb.block _ h2.lt).trans h2⟩
set_option maxRecDepth 100000 in
theorem rput_none (r : R) (w : World) (hr : r.wf) (hm : MayB r = false) :
    Calls Try.prog 8 #[.agg (rc r)] w fun e w' => e = .returned (.tuple #[.string (bs []), .int .i64 4]) ∧ Below w.heap.size w w' := by
  have hM := fun W => may_any r W hr
  rw [hm] at hM
  have HM := Lib.hid hM
  clear hM hm
  obtain ⟨kind, frame, own, p0, p1, seg, first, epoch, player⟩ := r
  dsimp only [rc] at *
  go_enter Try.func8, Try.ntmps8
  go_wp2_with fail
  refine (HM.out _).mono ?_
  rintro e w1 ⟨rfl, hb⟩
  have hB : Below w.heap.size w w1 := ((Below.refl _ w).alloc (Nat.le_refl _) _).trans (hb.mono (by simp))
  clear hb
  go_wp2
  go_ret2
  exact ⟨rfl, hB⟩
set_option maxRecDepth 100000 in
/-- Kind 1. -/
theorem rput_1 (frame own : Nat) (w : World) (hframe : frame < 18446744073709551616) (hown : own < 256) (r : R) (hr : r = ⟨1, frame, own, 0, 0, 0, 0, 0, 0⟩) (hwf : r.wf) (hm : MayB r = true) :
    Calls Try.prog 8 #[.agg (rc r)] w fun e w' => e = .returned (.tuple #[.string (bs ([1] ++ leB frame 8 ++ [UInt8.ofNat own])), .int .i64 0]) ∧ Below w.heap.size w w' := by
  have hM := fun W => may_any r W hwf
  rw [hm] at hM
  have Lframe := fun W => long_any frame W hframe
  have hcvk : ∀ (W : World) (g : Nat), W.cell? ⟨g, 0, none⟩ = some (.int .u8 1) → (convert 46 9 (.slice (some ⟨g, 0, none⟩) 1 1)).run Try.prog W = .ok (.string (bs [1])) W := fun W g h => conv1 1 (by decide) W g h
  subst hr
  dsimp only [rc] at *
  have hfin : bs [1] ++ bs (leB frame 8) ++ bs [UInt8.ofNat own] = bs ([1] ++ leB frame 8 ++ [UInt8.ofNat own]) := by simp only [bs_app]
  have z0 : (bs [1]).size ≤ 1 := by decide
  have zframe : (bs (leB frame 8)).size ≤ 8 := by rw [bs_size, leB_length]; exact Nat.le_refl 8
  have z9 : (bs [UInt8.ofNat own]).size ≤ 1 := by rw [bs_size]; exact Nat.le_refl _
  have HF := Lib.hid hfin
  have HM := Lib.hid hM
  have Hframe := Lib.hid Lframe
  clear hM hm hwf hfin Lframe
  go_enter Try.func8, Try.ntmps8
  go_wp2_with fail
  refine (HM.out _).mono ?_
  rintro e w1 ⟨rfl, hb⟩
  have hB : Below w.heap.size w w1 := ((Below.refl _ w).alloc (Nat.le_refl _) _).trans (hb.mono (by simp))
  have hbl : Blk w1 w.heap.size (rc ⟨1, frame, own, 0, 0, 0, 0, 0, 0⟩) 33 := (hb.block _ (by simp)).trans (heap_alloc_new w _)
  have c0 : w1.cell? ⟨w.heap.size, 0, none⟩ = some (.int .i64 1) := hbl.cell _ rfl
  have hlt : w.heap.size < w1.heap.size := hbl.lt
  clear hb
  go_wp2
  have hJ : Hold w ⟨1, frame, own, 0, 0, 0, 0, 0, 0⟩ (w1.alloc (.cells #[.int .u8 1] 5)) := Hold.call ⟨hbl, hB⟩ (bel_alloc _ _)
  refine Draw.wp_region_facts (Hold w ⟨1, frame, own, 0, 0, 0, 0, 0, 0⟩) (fun W W' => Below W.heap.size W W') (fun i W v => match i with
      | 0 => v = .string (bs [1])
      | 1 => v = .pointer (some ⟨w.heap.size, 1, none⟩)
      | 2 => v = .int .u64 frame
      | 3 => v = .string (bs (leB frame 8))
      | 4 => v = .string (bs [1] ++ bs (leB frame 8))
      | 5 => v = .pointer (some ⟨w.heap.size, 2, none⟩)
      | 6 => v = .int .u8 own
      | 7 => Row1 [UInt8.ofNat own] W v
      | 8 => v = .string (bs [UInt8.ofNat own])
      | 9 => v = .string (bs [1] ++ bs (leB frame 8) ++ bs [UInt8.ofNat own])
      | 10 => v = .string (bs [1] ++ bs (leB frame 8) ++ bs [UInt8.ofNat own])
      | _ => v = .int .i64 0) (by kernel_rfl) (by kernel_rfl) (by decide) rfl ?_ ⟨hJ.blk, hJ.bel.drew⟩ ?_ ?_
  · intro i W W' v he hf
    match i with
    | 7 => exact Row1.call hf he
    | 0 | 1 | 2 | 3 | 4 | 5 | 6 | 8 | 9 | 10 | n + 11 => exact hf
  · refine ⟨?_, ?_, ?_, ?_, ?_, ?_, ?_, ?_, ?_, ?_, ?_, ?_, trivial⟩
    all_goals intro ρ W hJ hc hf hK
    · exact Draw.Runs.value (w' := W) (v := ρ (.tmp 4)) rfl ⟨hJ, Below.refl _ _, hK.2 4 rfl⟩
    · have h0 : ρ (.tmp 1) = .pointer (some ⟨w.heap.size, 0, none⟩) := hK.2 1 rfl
      refine Draw.Runs.value (w' := W) (v := .pointer (some ⟨w.heap.size, 1, none⟩)) ?_ ⟨hJ, Below.refl _ _, rfl⟩
      simp only [execOp]; go_simp
    · have h0 : ρ (.tmp 18) = .pointer (some ⟨w.heap.size, 1, none⟩) := hK.get 1 18 rfl rfl
      have c : W.cell? ⟨w.heap.size, 1, none⟩ = some (.int .u64 frame) := hJ.blk.cell _ rfl
      refine Draw.Runs.value (w' := W) (v := .int .u64 frame) ?_ ⟨hJ, Below.refl _ _, rfl⟩
      simp only [execOp]; go_simp
    · have h0 : ρ (.tmp 19) = .int .u64 frame := hK.get 2 19 rfl rfl
      refine Draw.Runs.enter (f := 21) (args := #[.int .u64 frame]) ?_ ((Hframe.out W).mono fun e W' ⟨he, hb⟩ => ⟨_, he, hJ.call hb, hb, rfl⟩)
      simp only [execOp]; go_simp
    · have h0 : ρ (.tmp 17) = .string (bs [1]) := hK.get 0 17 rfl rfl
      have h1 : ρ (.tmp 20) = .string (bs (leB frame 8)) := hK.get 3 20 rfl rfl
      refine Draw.Runs.value (w' := W) (v := .string (bs [1] ++ bs (leB frame 8))) ?_ ⟨hJ, Below.refl _ _, rfl⟩
      simp only [execOp]; go_simp
      omega
    · have h0 : ρ (.tmp 1) = .pointer (some ⟨w.heap.size, 0, none⟩) := hK.2 1 rfl
      refine Draw.Runs.value (w' := W) (v := .pointer (some ⟨w.heap.size, 2, none⟩)) ?_ ⟨hJ, Below.refl _ _, rfl⟩
      simp only [execOp]; go_simp
    · have h0 : ρ (.tmp 22) = .pointer (some ⟨w.heap.size, 2, none⟩) := hK.get 5 22 rfl rfl
      have c : W.cell? ⟨w.heap.size, 2, none⟩ = some (.int .u8 own) := hJ.blk.cell _ rfl
      refine Draw.Runs.value (w' := W) (v := .int .u8 own) ?_ ⟨hJ, Below.refl _ _, rfl⟩
      simp only [execOp]; go_simp
    · have h0 : ρ (.tmp 23) = .int .u8 own := hK.get 6 23 rfl rfl
      refine Draw.Runs.value (w' := W.alloc (.cells ([UInt8.ofNat own].map bc).toArray 5)) (v := .slice (some ⟨W.heap.size, 0, none⟩) 1 1) ?_ ⟨hJ.call (bel_alloc _ _), bel_alloc _ _, W.heap.size, rfl, heap_alloc_new W _⟩
      rw [show ([UInt8.ofNat own].map bc).toArray = #[.int .u8 own] by simp [bc]; omega]
      simp only [execOp]; go_simp
    · have h : Row1 [UInt8.ofNat own] W (ρ (.tmp 24)) := hK.get 7 24 rfl rfl
      have hcv := h.conv (by show _ ≤ maxLen; unfold maxLen; simp)
      refine Draw.Runs.value (w' := W) (v := .string (bs [UInt8.ofNat own])) ?_ ⟨hJ, Below.refl _ _, rfl⟩
      simp only [execOp]; go_simp
    · have h0 : ρ (.tmp 21) = .string (bs [1] ++ bs (leB frame 8)) := hK.get 4 21 rfl rfl
      have h1 : ρ (.tmp 25) = .string (bs [UInt8.ofNat own]) := hK.get 8 25 rfl rfl
      refine Draw.Runs.value (w' := W) (v := .string (bs [1] ++ bs (leB frame 8) ++ bs [UInt8.ofNat own])) ?_ ⟨hJ, Below.refl _ _, rfl⟩
      simp only [execOp]; go_simp
      omega
    · exact Draw.Runs.value (w' := W) (v := ρ (.tmp 26)) rfl ⟨hJ, Below.refl _ _, hK.get 9 26 rfl rfl⟩
    · exact Draw.Runs.value (w' := W) (v := ρ (.const (.int .i64 0))) rfl ⟨hJ, Below.refl _ _, hc _⟩
  · intro a' w' hJ hd hz hf hr
    have r2 : a'.tmps.getD 2 undef = .string (bs [1] ++ bs (leB frame 8) ++ bs [UInt8.ofNat own]) := hf 10 _ 2 rfl rfl
    have r3 : a'.tmps.getD 3 undef = .int .i64 0 := hf 11 _ 3 rfl rfl
    obtain ⟨t, d⟩ := a'
    obtain rfl : d = [] := hd
    go_wp2
    exact bodyPost_ret (v := .tuple #[.string (bs [1] ++ bs (leB frame 8) ++ bs [UInt8.ofNat own]), .int .i64 0]) ((Draw.results2 rfl _ _ _).trans (by rw [r2, r3])) rfl ⟨by rw [HF.out]; simp, hJ.bel⟩
set_option maxRecDepth 100000 in
/-- Kind 2. -/
theorem rput_2 (frame p0 p1 : Nat) (w : World) (hframe : frame < 18446744073709551616) (hp0 : p0 < 256) (hp1 : p1 < 256) (r : R) (hr : r = ⟨2, frame, 0, p0, p1, 0, 0, 0, 0⟩) (hwf : r.wf) (hm : MayB r = true) :
    Calls Try.prog 8 #[.agg (rc r)] w fun e w' => e = .returned (.tuple #[.string (bs ([2] ++ leB frame 8 ++ [UInt8.ofNat p0, UInt8.ofNat p1])), .int .i64 0]) ∧ Below w.heap.size w w' := by
  have hM := fun W => may_any r W hwf
  rw [hm] at hM
  have Lframe := fun W => long_any frame W hframe
  have hcvk : ∀ (W : World) (g : Nat), W.cell? ⟨g, 0, none⟩ = some (.int .u8 2) → (convert 46 9 (.slice (some ⟨g, 0, none⟩) 1 1)).run Try.prog W = .ok (.string (bs [2])) W := fun W g h => conv1 2 (by decide) W g h
  subst hr
  dsimp only [rc] at *
  have hfin : bs [2] ++ bs (leB frame 8) ++ bs [UInt8.ofNat p0, UInt8.ofNat p1] = bs ([2] ++ leB frame 8 ++ [UInt8.ofNat p0, UInt8.ofNat p1]) := by simp only [bs_app]
  have z0 : (bs [2]).size ≤ 1 := by decide
  have zframe : (bs (leB frame 8)).size ≤ 8 := by rw [bs_size, leB_length]; exact Nat.le_refl 8
  have z9 : (bs [UInt8.ofNat p0, UInt8.ofNat p1]).size ≤ 2 := by rw [bs_size]; exact Nat.le_refl _
  have HF := Lib.hid hfin
  have HM := Lib.hid hM
  have Hframe := Lib.hid Lframe
  clear hM hm hwf hfin Lframe
  go_enter Try.func8, Try.ntmps8
  go_wp2_with fail
  refine (HM.out _).mono ?_
  rintro e w1 ⟨rfl, hb⟩
  have hB : Below w.heap.size w w1 := ((Below.refl _ w).alloc (Nat.le_refl _) _).trans (hb.mono (by simp))
  have hbl : Blk w1 w.heap.size (rc ⟨2, frame, 0, p0, p1, 0, 0, 0, 0⟩) 33 := (hb.block _ (by simp)).trans (heap_alloc_new w _)
  have c0 : w1.cell? ⟨w.heap.size, 0, none⟩ = some (.int .i64 2) := hbl.cell _ rfl
  have hlt : w.heap.size < w1.heap.size := hbl.lt
  clear hb
  go_wp2
  have hJ : Hold w ⟨2, frame, 0, p0, p1, 0, 0, 0, 0⟩ (w1.alloc (.cells #[.int .u8 2] 5)) := Hold.call ⟨hbl, hB⟩ (bel_alloc _ _)
  refine Draw.wp_region_facts (Hold w ⟨2, frame, 0, p0, p1, 0, 0, 0, 0⟩) (fun W W' => Below W.heap.size W W') (fun i W v => match i with
      | 0 => v = .string (bs [2])
      | 1 => v = .pointer (some ⟨w.heap.size, 1, none⟩)
      | 2 => v = .int .u64 frame
      | 3 => v = .string (bs (leB frame 8))
      | 4 => v = .string (bs [2] ++ bs (leB frame 8))
      | 5 => v = .pointer (some ⟨w.heap.size, 3, none⟩)
      | 6 => v = .pointer (some ⟨w.heap.size, 3, none⟩)
      | 7 => v = .int .u8 p0
      | 8 => v = .pointer (some ⟨w.heap.size, 3, none⟩)
      | 9 => v = .pointer (some ⟨w.heap.size, 4, none⟩)
      | 10 => v = .int .u8 p1
      | 11 => Row1 [UInt8.ofNat p0, UInt8.ofNat p1] W v
      | 12 => v = .string (bs [UInt8.ofNat p0, UInt8.ofNat p1])
      | 13 => v = .string (bs [2] ++ bs (leB frame 8) ++ bs [UInt8.ofNat p0, UInt8.ofNat p1])
      | 14 => v = .string (bs [2] ++ bs (leB frame 8) ++ bs [UInt8.ofNat p0, UInt8.ofNat p1])
      | _ => v = .int .i64 0) (by kernel_rfl) (by kernel_rfl) (by decide) rfl ?_ ⟨hJ.blk, hJ.bel.drew⟩ ?_ ?_
  · intro i W W' v he hf
    match i with
    | 11 => exact Row1.call hf he
    | 0 | 1 | 2 | 3 | 4 | 5 | 6 | 7 | 8 | 9 | 10 | 12 | 13 | 14 | n + 15 => exact hf
  · refine ⟨?_, ?_, ?_, ?_, ?_, ?_, ?_, ?_, ?_, ?_, ?_, ?_, ?_, ?_, ?_, ?_, trivial⟩
    all_goals intro ρ W hJ hc hf hK
    · exact Draw.Runs.value (w' := W) (v := ρ (.tmp 4)) rfl ⟨hJ, Below.refl _ _, hK.2 4 rfl⟩
    · have h0 : ρ (.tmp 1) = .pointer (some ⟨w.heap.size, 0, none⟩) := hK.2 1 rfl
      refine Draw.Runs.value (w' := W) (v := .pointer (some ⟨w.heap.size, 1, none⟩)) ?_ ⟨hJ, Below.refl _ _, rfl⟩
      simp only [execOp]; go_simp
    · have h0 : ρ (.tmp 30) = .pointer (some ⟨w.heap.size, 1, none⟩) := hK.get 1 30 rfl rfl
      have c : W.cell? ⟨w.heap.size, 1, none⟩ = some (.int .u64 frame) := hJ.blk.cell _ rfl
      refine Draw.Runs.value (w' := W) (v := .int .u64 frame) ?_ ⟨hJ, Below.refl _ _, rfl⟩
      simp only [execOp]; go_simp
    · have h0 : ρ (.tmp 31) = .int .u64 frame := hK.get 2 31 rfl rfl
      refine Draw.Runs.enter (f := 21) (args := #[.int .u64 frame]) ?_ ((Hframe.out W).mono fun e W' ⟨he, hb⟩ => ⟨_, he, hJ.call hb, hb, rfl⟩)
      simp only [execOp]; go_simp
    · have h0 : ρ (.tmp 29) = .string (bs [2]) := hK.get 0 29 rfl rfl
      have h1 : ρ (.tmp 32) = .string (bs (leB frame 8)) := hK.get 3 32 rfl rfl
      refine Draw.Runs.value (w' := W) (v := .string (bs [2] ++ bs (leB frame 8))) ?_ ⟨hJ, Below.refl _ _, rfl⟩
      simp only [execOp]; go_simp
      omega
    · have h0 : ρ (.tmp 1) = .pointer (some ⟨w.heap.size, 0, none⟩) := hK.2 1 rfl
      refine Draw.Runs.value (w' := W) (v := .pointer (some ⟨w.heap.size, 3, none⟩)) ?_ ⟨hJ, Below.refl _ _, rfl⟩
      simp only [execOp]; go_simp
    · have h0 : ρ (.tmp 34) = .pointer (some ⟨w.heap.size, 3, none⟩) := hK.get 5 34 rfl rfl
      refine Draw.Runs.value (w' := W) (v := .pointer (some ⟨w.heap.size, 3, none⟩)) ?_ ⟨hJ, Below.refl _ _, rfl⟩
      simp only [execOp]; go_simp
    · have h0 : ρ (.tmp 35) = .pointer (some ⟨w.heap.size, 3, none⟩) := hK.get 6 35 rfl rfl
      have c : W.cell? ⟨w.heap.size, 3, none⟩ = some (.int .u8 p0) := hJ.blk.cell _ rfl
      refine Draw.Runs.value (w' := W) (v := .int .u8 p0) ?_ ⟨hJ, Below.refl _ _, rfl⟩
      simp only [execOp]; go_simp
    · have h0 : ρ (.tmp 1) = .pointer (some ⟨w.heap.size, 0, none⟩) := hK.2 1 rfl
      refine Draw.Runs.value (w' := W) (v := .pointer (some ⟨w.heap.size, 3, none⟩)) ?_ ⟨hJ, Below.refl _ _, rfl⟩
      simp only [execOp]; go_simp
    · have h0 : ρ (.tmp 37) = .pointer (some ⟨w.heap.size, 3, none⟩) := hK.get 8 37 rfl rfl
      refine Draw.Runs.value (w' := W) (v := .pointer (some ⟨w.heap.size, 4, none⟩)) ?_ ⟨hJ, Below.refl _ _, rfl⟩
      simp only [execOp]; go_simp
    · have h0 : ρ (.tmp 38) = .pointer (some ⟨w.heap.size, 4, none⟩) := hK.get 9 38 rfl rfl
      have c : W.cell? ⟨w.heap.size, 4, none⟩ = some (.int .u8 p1) := hJ.blk.cell _ rfl
      refine Draw.Runs.value (w' := W) (v := .int .u8 p1) ?_ ⟨hJ, Below.refl _ _, rfl⟩
      simp only [execOp]; go_simp
    · have h0 : ρ (.tmp 36) = .int .u8 p0 := hK.get 7 36 rfl rfl
      have h1 : ρ (.tmp 39) = .int .u8 p1 := hK.get 10 39 rfl rfl
      refine Draw.Runs.value (w' := W.alloc (.cells ([UInt8.ofNat p0, UInt8.ofNat p1].map bc).toArray 5)) (v := .slice (some ⟨W.heap.size, 0, none⟩) 2 2) ?_ ⟨hJ.call (bel_alloc _ _), bel_alloc _ _, W.heap.size, rfl, heap_alloc_new W _⟩
      rw [show ([UInt8.ofNat p0, UInt8.ofNat p1].map bc).toArray = #[.int .u8 p0, .int .u8 p1] by simp [bc]; omega]
      simp only [execOp]; go_simp
    · have h : Row1 [UInt8.ofNat p0, UInt8.ofNat p1] W (ρ (.tmp 40)) := hK.get 11 40 rfl rfl
      have hcv := h.conv (by show _ ≤ maxLen; unfold maxLen; simp)
      refine Draw.Runs.value (w' := W) (v := .string (bs [UInt8.ofNat p0, UInt8.ofNat p1])) ?_ ⟨hJ, Below.refl _ _, rfl⟩
      simp only [execOp]; go_simp
    · have h0 : ρ (.tmp 33) = .string (bs [2] ++ bs (leB frame 8)) := hK.get 4 33 rfl rfl
      have h1 : ρ (.tmp 41) = .string (bs [UInt8.ofNat p0, UInt8.ofNat p1]) := hK.get 12 41 rfl rfl
      refine Draw.Runs.value (w' := W) (v := .string (bs [2] ++ bs (leB frame 8) ++ bs [UInt8.ofNat p0, UInt8.ofNat p1])) ?_ ⟨hJ, Below.refl _ _, rfl⟩
      simp only [execOp]; go_simp
      omega
    · exact Draw.Runs.value (w' := W) (v := ρ (.tmp 42)) rfl ⟨hJ, Below.refl _ _, hK.get 13 42 rfl rfl⟩
    · exact Draw.Runs.value (w' := W) (v := ρ (.const (.int .i64 0))) rfl ⟨hJ, Below.refl _ _, hc _⟩
  · intro a' w' hJ hd hz hf hr
    have r2 : a'.tmps.getD 2 undef = .string (bs [2] ++ bs (leB frame 8) ++ bs [UInt8.ofNat p0, UInt8.ofNat p1]) := hf 14 _ 2 rfl rfl
    have r3 : a'.tmps.getD 3 undef = .int .i64 0 := hf 15 _ 3 rfl rfl
    obtain ⟨t, d⟩ := a'
    obtain rfl : d = [] := hd
    go_wp2
    exact bodyPost_ret (v := .tuple #[.string (bs [2] ++ bs (leB frame 8) ++ bs [UInt8.ofNat p0, UInt8.ofNat p1]), .int .i64 0]) ((Draw.results2 rfl _ _ _).trans (by rw [r2, r3])) rfl ⟨by rw [HF.out]; simp, hJ.bel⟩
set_option maxRecDepth 100000 in
/-- Kind 3. -/
theorem rput_3 (seg first epoch player : Nat) (w : World) (hseg : seg < 18446744073709551616) (hfirst : first < 18446744073709551616) (hepoch : epoch < 18446744073709551616) (hplayer : player < 256) (r : R) (hr : r = ⟨3, 0, 0, 0, 0, seg, first, epoch, player⟩) (hwf : r.wf) (hm : MayB r = true) :
    Calls Try.prog 8 #[.agg (rc r)] w fun e w' => e = .returned (.tuple #[.string (bs ([3] ++ leB seg 8 ++ leB first 8 ++ leB epoch 8 ++ [UInt8.ofNat player])), .int .i64 0]) ∧ Below w.heap.size w w' := by
  have hM := fun W => may_any r W hwf
  rw [hm] at hM
  have Lseg := fun W => long_any seg W hseg
  have Lfirst := fun W => long_any first W hfirst
  have Lepoch := fun W => long_any epoch W hepoch
  have hcvk : ∀ (W : World) (g : Nat), W.cell? ⟨g, 0, none⟩ = some (.int .u8 3) → (convert 46 9 (.slice (some ⟨g, 0, none⟩) 1 1)).run Try.prog W = .ok (.string (bs [3])) W := fun W g h => conv1 3 (by decide) W g h
  subst hr
  dsimp only [rc] at *
  have hfin : bs [3] ++ bs (leB seg 8) ++ bs (leB first 8) ++ bs (leB epoch 8) ++ bs [UInt8.ofNat player] = bs ([3] ++ leB seg 8 ++ leB first 8 ++ leB epoch 8 ++ [UInt8.ofNat player]) := by simp only [bs_app]
  have z0 : (bs [3]).size ≤ 1 := by decide
  have zseg : (bs (leB seg 8)).size ≤ 8 := by rw [bs_size, leB_length]; exact Nat.le_refl 8
  have zfirst : (bs (leB first 8)).size ≤ 8 := by rw [bs_size, leB_length]; exact Nat.le_refl 8
  have zepoch : (bs (leB epoch 8)).size ≤ 8 := by rw [bs_size, leB_length]; exact Nat.le_refl 8
  have z9 : (bs [UInt8.ofNat player]).size ≤ 1 := by rw [bs_size]; exact Nat.le_refl _
  have HF := Lib.hid hfin
  have HM := Lib.hid hM
  have Hseg := Lib.hid Lseg
  have Hfirst := Lib.hid Lfirst
  have Hepoch := Lib.hid Lepoch
  clear hM hm hwf hfin Lseg Lfirst Lepoch
  go_enter Try.func8, Try.ntmps8
  go_wp2_with fail
  refine (HM.out _).mono ?_
  rintro e w1 ⟨rfl, hb⟩
  have hB : Below w.heap.size w w1 := ((Below.refl _ w).alloc (Nat.le_refl _) _).trans (hb.mono (by simp))
  have hbl : Blk w1 w.heap.size (rc ⟨3, 0, 0, 0, 0, seg, first, epoch, player⟩) 33 := (hb.block _ (by simp)).trans (heap_alloc_new w _)
  have c0 : w1.cell? ⟨w.heap.size, 0, none⟩ = some (.int .i64 3) := hbl.cell _ rfl
  have hlt : w.heap.size < w1.heap.size := hbl.lt
  clear hb
  go_wp2
  have hJ : Hold w ⟨3, 0, 0, 0, 0, seg, first, epoch, player⟩ (w1.alloc (.cells #[.int .u8 3] 5)) := Hold.call ⟨hbl, hB⟩ (bel_alloc _ _)
  refine Draw.wp_region_facts (Hold w ⟨3, 0, 0, 0, 0, seg, first, epoch, player⟩) (fun W W' => Below W.heap.size W W') (fun i W v => match i with
      | 0 => v = .string (bs [3])
      | 1 => v = .pointer (some ⟨w.heap.size, 5, none⟩)
      | 2 => v = .int .u64 seg
      | 3 => v = .string (bs (leB seg 8))
      | 4 => v = .string (bs [3] ++ bs (leB seg 8))
      | 5 => v = .pointer (some ⟨w.heap.size, 6, none⟩)
      | 6 => v = .int .u64 first
      | 7 => v = .string (bs (leB first 8))
      | 8 => v = .string (bs [3] ++ bs (leB seg 8) ++ bs (leB first 8))
      | 9 => v = .pointer (some ⟨w.heap.size, 7, none⟩)
      | 10 => v = .int .u64 epoch
      | 11 => v = .string (bs (leB epoch 8))
      | 12 => v = .string (bs [3] ++ bs (leB seg 8) ++ bs (leB first 8) ++ bs (leB epoch 8))
      | 13 => v = .pointer (some ⟨w.heap.size, 8, none⟩)
      | 14 => v = .int .u8 player
      | 15 => Row1 [UInt8.ofNat player] W v
      | 16 => v = .string (bs [UInt8.ofNat player])
      | 17 => v = .string (bs [3] ++ bs (leB seg 8) ++ bs (leB first 8) ++ bs (leB epoch 8) ++ bs [UInt8.ofNat player])
      | 18 => v = .string (bs [3] ++ bs (leB seg 8) ++ bs (leB first 8) ++ bs (leB epoch 8) ++ bs [UInt8.ofNat player])
      | _ => v = .int .i64 0) (by kernel_rfl) (by kernel_rfl) (by decide) rfl ?_ ⟨hJ.blk, hJ.bel.drew⟩ ?_ ?_
  · intro i W W' v he hf
    match i with
    | 15 => exact Row1.call hf he
    | 0 | 1 | 2 | 3 | 4 | 5 | 6 | 7 | 8 | 9 | 10 | 11 | 12 | 13 | 14 | 16 | 17 | 18 | n + 19 => exact hf
  · refine ⟨?_, ?_, ?_, ?_, ?_, ?_, ?_, ?_, ?_, ?_, ?_, ?_, ?_, ?_, ?_, ?_, ?_, ?_, ?_, ?_, trivial⟩
    all_goals intro ρ W hJ hc hf hK
    · exact Draw.Runs.value (w' := W) (v := ρ (.tmp 4)) rfl ⟨hJ, Below.refl _ _, hK.2 4 rfl⟩
    · have h0 : ρ (.tmp 1) = .pointer (some ⟨w.heap.size, 0, none⟩) := hK.2 1 rfl
      refine Draw.Runs.value (w' := W) (v := .pointer (some ⟨w.heap.size, 5, none⟩)) ?_ ⟨hJ, Below.refl _ _, rfl⟩
      simp only [execOp]; go_simp
    · have h0 : ρ (.tmp 44) = .pointer (some ⟨w.heap.size, 5, none⟩) := hK.get 1 44 rfl rfl
      have c : W.cell? ⟨w.heap.size, 5, none⟩ = some (.int .u64 seg) := hJ.blk.cell _ rfl
      refine Draw.Runs.value (w' := W) (v := .int .u64 seg) ?_ ⟨hJ, Below.refl _ _, rfl⟩
      simp only [execOp]; go_simp
    · have h0 : ρ (.tmp 45) = .int .u64 seg := hK.get 2 45 rfl rfl
      refine Draw.Runs.enter (f := 21) (args := #[.int .u64 seg]) ?_ ((Hseg.out W).mono fun e W' ⟨he, hb⟩ => ⟨_, he, hJ.call hb, hb, rfl⟩)
      simp only [execOp]; go_simp
    · have h0 : ρ (.tmp 43) = .string (bs [3]) := hK.get 0 43 rfl rfl
      have h1 : ρ (.tmp 46) = .string (bs (leB seg 8)) := hK.get 3 46 rfl rfl
      refine Draw.Runs.value (w' := W) (v := .string (bs [3] ++ bs (leB seg 8))) ?_ ⟨hJ, Below.refl _ _, rfl⟩
      simp only [execOp]; go_simp
      omega
    · have h0 : ρ (.tmp 1) = .pointer (some ⟨w.heap.size, 0, none⟩) := hK.2 1 rfl
      refine Draw.Runs.value (w' := W) (v := .pointer (some ⟨w.heap.size, 6, none⟩)) ?_ ⟨hJ, Below.refl _ _, rfl⟩
      simp only [execOp]; go_simp
    · have h0 : ρ (.tmp 48) = .pointer (some ⟨w.heap.size, 6, none⟩) := hK.get 5 48 rfl rfl
      have c : W.cell? ⟨w.heap.size, 6, none⟩ = some (.int .u64 first) := hJ.blk.cell _ rfl
      refine Draw.Runs.value (w' := W) (v := .int .u64 first) ?_ ⟨hJ, Below.refl _ _, rfl⟩
      simp only [execOp]; go_simp
    · have h0 : ρ (.tmp 49) = .int .u64 first := hK.get 6 49 rfl rfl
      refine Draw.Runs.enter (f := 21) (args := #[.int .u64 first]) ?_ ((Hfirst.out W).mono fun e W' ⟨he, hb⟩ => ⟨_, he, hJ.call hb, hb, rfl⟩)
      simp only [execOp]; go_simp
    · have h0 : ρ (.tmp 47) = .string (bs [3] ++ bs (leB seg 8)) := hK.get 4 47 rfl rfl
      have h1 : ρ (.tmp 50) = .string (bs (leB first 8)) := hK.get 7 50 rfl rfl
      refine Draw.Runs.value (w' := W) (v := .string (bs [3] ++ bs (leB seg 8) ++ bs (leB first 8))) ?_ ⟨hJ, Below.refl _ _, rfl⟩
      simp only [execOp]; go_simp
      omega
    · have h0 : ρ (.tmp 1) = .pointer (some ⟨w.heap.size, 0, none⟩) := hK.2 1 rfl
      refine Draw.Runs.value (w' := W) (v := .pointer (some ⟨w.heap.size, 7, none⟩)) ?_ ⟨hJ, Below.refl _ _, rfl⟩
      simp only [execOp]; go_simp
    · have h0 : ρ (.tmp 52) = .pointer (some ⟨w.heap.size, 7, none⟩) := hK.get 9 52 rfl rfl
      have c : W.cell? ⟨w.heap.size, 7, none⟩ = some (.int .u64 epoch) := hJ.blk.cell _ rfl
      refine Draw.Runs.value (w' := W) (v := .int .u64 epoch) ?_ ⟨hJ, Below.refl _ _, rfl⟩
      simp only [execOp]; go_simp
    · have h0 : ρ (.tmp 53) = .int .u64 epoch := hK.get 10 53 rfl rfl
      refine Draw.Runs.enter (f := 21) (args := #[.int .u64 epoch]) ?_ ((Hepoch.out W).mono fun e W' ⟨he, hb⟩ => ⟨_, he, hJ.call hb, hb, rfl⟩)
      simp only [execOp]; go_simp
    · have h0 : ρ (.tmp 51) = .string (bs [3] ++ bs (leB seg 8) ++ bs (leB first 8)) := hK.get 8 51 rfl rfl
      have h1 : ρ (.tmp 54) = .string (bs (leB epoch 8)) := hK.get 11 54 rfl rfl
      refine Draw.Runs.value (w' := W) (v := .string (bs [3] ++ bs (leB seg 8) ++ bs (leB first 8) ++ bs (leB epoch 8))) ?_ ⟨hJ, Below.refl _ _, rfl⟩
      simp only [execOp]; go_simp
      omega
    · have h0 : ρ (.tmp 1) = .pointer (some ⟨w.heap.size, 0, none⟩) := hK.2 1 rfl
      refine Draw.Runs.value (w' := W) (v := .pointer (some ⟨w.heap.size, 8, none⟩)) ?_ ⟨hJ, Below.refl _ _, rfl⟩
      simp only [execOp]; go_simp
    · have h0 : ρ (.tmp 56) = .pointer (some ⟨w.heap.size, 8, none⟩) := hK.get 13 56 rfl rfl
      have c : W.cell? ⟨w.heap.size, 8, none⟩ = some (.int .u8 player) := hJ.blk.cell _ rfl
      refine Draw.Runs.value (w' := W) (v := .int .u8 player) ?_ ⟨hJ, Below.refl _ _, rfl⟩
      simp only [execOp]; go_simp
    · have h0 : ρ (.tmp 57) = .int .u8 player := hK.get 14 57 rfl rfl
      refine Draw.Runs.value (w' := W.alloc (.cells ([UInt8.ofNat player].map bc).toArray 5)) (v := .slice (some ⟨W.heap.size, 0, none⟩) 1 1) ?_ ⟨hJ.call (bel_alloc _ _), bel_alloc _ _, W.heap.size, rfl, heap_alloc_new W _⟩
      rw [show ([UInt8.ofNat player].map bc).toArray = #[.int .u8 player] by simp [bc]; omega]
      simp only [execOp]; go_simp
    · have h : Row1 [UInt8.ofNat player] W (ρ (.tmp 58)) := hK.get 15 58 rfl rfl
      have hcv := h.conv (by show _ ≤ maxLen; unfold maxLen; simp)
      refine Draw.Runs.value (w' := W) (v := .string (bs [UInt8.ofNat player])) ?_ ⟨hJ, Below.refl _ _, rfl⟩
      simp only [execOp]; go_simp
    · have h0 : ρ (.tmp 55) = .string (bs [3] ++ bs (leB seg 8) ++ bs (leB first 8) ++ bs (leB epoch 8)) := hK.get 12 55 rfl rfl
      have h1 : ρ (.tmp 59) = .string (bs [UInt8.ofNat player]) := hK.get 16 59 rfl rfl
      refine Draw.Runs.value (w' := W) (v := .string (bs [3] ++ bs (leB seg 8) ++ bs (leB first 8) ++ bs (leB epoch 8) ++ bs [UInt8.ofNat player])) ?_ ⟨hJ, Below.refl _ _, rfl⟩
      simp only [execOp]; go_simp
      omega
    · exact Draw.Runs.value (w' := W) (v := ρ (.tmp 60)) rfl ⟨hJ, Below.refl _ _, hK.get 17 60 rfl rfl⟩
    · exact Draw.Runs.value (w' := W) (v := ρ (.const (.int .i64 0))) rfl ⟨hJ, Below.refl _ _, hc _⟩
  · intro a' w' hJ hd hz hf hr
    have r2 : a'.tmps.getD 2 undef = .string (bs [3] ++ bs (leB seg 8) ++ bs (leB first 8) ++ bs (leB epoch 8) ++ bs [UInt8.ofNat player]) := hf 18 _ 2 rfl rfl
    have r3 : a'.tmps.getD 3 undef = .int .i64 0 := hf 19 _ 3 rfl rfl
    obtain ⟨t, d⟩ := a'
    obtain rfl : d = [] := hd
    go_wp2
    exact bodyPost_ret (v := .tuple #[.string (bs [3] ++ bs (leB seg 8) ++ bs (leB first 8) ++ bs (leB epoch 8) ++ bs [UInt8.ofNat player]), .int .i64 0]) ((Draw.results2 rfl _ _ _).trans (by rw [r2, r3])) rfl ⟨by rw [HF.out]; simp, hJ.bel⟩
theorem leB_one {n : Nat} (h : n < 256) : leB n 1 = [UInt8.ofNat n] := by
  rw [leB, Nat.mod_eq_of_lt h]; rfl
/-- What the document's 'Put' answers. -/
theorem rput_any (r : R) (w : World) (hr : r.wf) :
    Calls Try.prog 8 #[.agg (rc r)] w fun e w' => e = .returned (.tuple #[.string (bs r.put.1), .int .i64 r.put.2]) ∧ Below w.heap.size w w' := by
  unfold R.put
  by_cases hm : r.may
  · rw [if_pos hm]
    have hM : MayB r = true := decide_eq_true hm
    have hwf := hr
    obtain ⟨kind, frame, own, p0, p1, seg, first, epoch, player⟩ := r
    obtain ⟨h1, h2⟩ := hm
    rcases h2 with ⟨rfl, rfl, rfl, rfl, rfl, rfl, rfl⟩ | ⟨rfl, rfl, rfl, rfl, rfl, rfl⟩ | ⟨rfl, rfl, rfl, rfl, rfl⟩
    · have e : R.text ⟨1, frame, own, 0, 0, 0, 0, 0, 0⟩ = [1] ++ leB frame 8 ++ [UInt8.ofNat own] := by rw [← leB_one hr.own]; rfl
      rw [e]; exact rput_1 frame own w hr.frame hr.own _ rfl hwf hM
    · have e : R.text ⟨2, frame, 0, p0, p1, 0, 0, 0, 0⟩ = [2] ++ leB frame 8 ++ [UInt8.ofNat p0, UInt8.ofNat p1] := by
        show 2 :: (leB frame 8 ++ leB p0 1 ++ leB p1 1) = _
        rw [leB_one hr.p0, leB_one hr.p1]; simp
      rw [e]; exact rput_2 frame p0 p1 w hr.frame hr.p0 hr.p1 _ rfl hwf hM
    · have e : R.text ⟨3, 0, 0, 0, 0, seg, first, epoch, player⟩ = [3] ++ leB seg 8 ++ leB first 8 ++ leB epoch 8 ++ [UInt8.ofNat player] := by rw [← leB_one hr.player]; rfl
      rw [e]; exact rput_3 seg first epoch player w hr.seg hr.first hr.epoch hr.player _ rfl hwf hM
  · rw [if_neg hm]; exact rput_none r w hr (decide_eq_false hm)
end Go.Proofs.Ytghgefiaijfbgaa.Rec
