/- The law RecordKnown: walked. No conditions. -/
import Derived.Test.YtghgefiaijfbgaaRecL
namespace Go.Proofs.Ytghgefiaijfbgaa.Rec
open Go.RowKit Go.Proofs.Ytghgefiaijfbgaa.Crc Go.Proofs.Ytghgefiaijfbgaa.Codec
set_option linter.unusedVariables false
theorem neg_wf : R.wf ⟨-255, 0, 0, 0, 0, 0, 0, 0, 0⟩ := by constructor <;> decide
theorem fails_of (s : ByteArray) (l : List UInt8) (e : Int) (hs : s = bs l) (hl : l.length ≤ maxLen) (h : tR l = (R.zero, e)) (W : World) :
    Calls Try.prog 12 #[.string s, .int .i64 e] W fun r w' => r = .returned (.bool true) ∧ Below W.heap.size W w' := by
  subst hs; exact fails_yes l e W hl h
set_option maxRecDepth 100000 in
set_option maxHeartbeats 1000000 in
/-- P15.1: the law RecordKnown. -/
theorem known_law (w : World) :
    Calls Try.prog 5 #[] w fun e w' => e = .returned (.bool true) ∧ Below w.heap.size w w' := by
  have hw : R.wf ⟨3, 0, 0, 0, 0, 1, 2, 3, 1⟩ := wf_of 3 0 0 0 0 1 2 3 1 (by decide)
  have hm : R.may ⟨3, 0, 0, 0, 0, 1, 2, 3, 1⟩ := by decide +kernel
  have K0 := Lib.hid (put_yes hm hw)
  have K5 := Lib.hid (take_put hm hw)
  have hsz : (bs (R.text ⟨3, 0, 0, 0, 0, 1, 2, 3, 1⟩)).size = 26 := by decide +kernel
  have K1 := Lib.hid (fails_of ((bs (R.text ⟨3, 0, 0, 0, 0, 1, 2, 3, 1⟩)).extract 0 25) ((R.text ⟨3, 0, 0, 0, 0, 1, 2, 3, 1⟩).take 25) 10 (by decide +kernel) (by decide +kernel) (by decide +kernel))
  have K2 := Lib.hid (fails_of (bs (R.text ⟨3, 0, 0, 0, 0, 1, 2, 3, 1⟩) ++ ⟨#[0]⟩) (R.text ⟨3, 0, 0, 0, 0, 1, 2, 3, 1⟩ ++ [0]) 4 (by decide +kernel) (by decide +kernel) (by decide +kernel))
  have K3 := Lib.hid (fun W => puts_yes ⟨2, 1, 0, 2, 3, 0, 0, 0, 0⟩ ⟨#[2, 1, 0, 0, 0, 0, 0, 0, 0, 2, 3]⟩ W (wf_of 2 1 0 2 3 0 0 0 0 (by decide)) (by decide +kernel) (by decide +kernel))
  have K6 := Lib.hid (fun W => none_yes ⟨1, 0, 64, 0, 0, 0, 0, 0, 0⟩ W (wf_of 1 0 64 0 0 0 0 0 0 (by decide)) (by decide +kernel))
  have K7 := Lib.hid (fun W => none_yes ⟨1, 0, 0, 0, 0, 0, 0, 0, 1⟩ W (wf_of 1 0 0 0 0 0 0 0 1 (by decide)) (by decide +kernel))
  have K8 := Lib.hid (fun W => none_yes ⟨257, 0, 0, 0, 0, 0, 0, 0, 0⟩ W (wf_of 257 0 0 0 0 0 0 0 0 (by decide)) (by decide +kernel))
  have K9 := Lib.hid (fun W => none_yes ⟨-255, 0, 0, 0, 0, 0, 0, 0, 0⟩ W neg_wf (by decide +kernel))
  have K10 := Lib.hid (fun W => none_yes ⟨3, 0, 0, 0, 0, 0, 0, 0, 2⟩ W (wf_of 3 0 0 0 0 0 0 0 2 (by decide)) (by decide +kernel))
  have K11 := Lib.hid (fun W => none_yes ⟨2, 0, 0, 0, 200, 0, 0, 0, 0⟩ W (wf_of 2 0 0 0 200 0 0 0 0 (by decide)) (by decide +kernel))
  have K12 := Lib.hid (fun W => none_yes ⟨0, 0, 0, 0, 0, 0, 0, 0, 0⟩ W (wf_of 0 0 0 0 0 0 0 0 0 (by decide)) (by decide +kernel))
  have K13 := Lib.hid (fails_of ⟨#[4]⟩ [4] 4 rfl (by decide +kernel) (by decide +kernel))
  have K14 := Lib.hid (fails_of ⟨#[1]⟩ [1] 10 rfl (by decide +kernel) (by decide +kernel))
  have K15 := Lib.hid (fails_of ⟨#[1, 0, 0, 0, 0, 0, 0, 0, 0, 64]⟩ [1, 0, 0, 0, 0, 0, 0, 0, 0, 64] 4 rfl (by decide +kernel) (by decide +kernel))
  have K16 := Lib.hid (fails_of ⟨#[0]⟩ [0] 4 rfl (by decide +kernel) (by decide +kernel))
  have K17 := Lib.hid awake_any
  generalize bs (R.text ⟨3, 0, 0, 0, 0, 1, 2, 3, 1⟩) = TX at *
  clear hw hm
  go_enter Try.func5, Try.ntmps5
  go_wp2_with fail
  refine (K0.out _).mono ?_
  rintro e W0 ⟨rfl, hb⟩
  have ba : Blk W0 w.heap.size (rc ⟨3, 0, 0, 0, 0, 1, 2, 3, 1⟩) 27 := (hb.block _ (by simp)).trans (heap_alloc_new w _)
  have hB : Below w.heap.size w W0 := ((Below.refl _ w).alloc (Nat.le_refl _) _).trans (hb.mono (by simp))
  clear hb
  go_wp2_with fail
  refine (K1.out _).mono ?_
  rintro e W1 ⟨rfl, hb⟩
  have ba' : Blk W1 w.heap.size (rc ⟨3, 0, 0, 0, 0, 1, 2, 3, 1⟩) 27 := (hb.block _ ba.lt).trans ba
  have hB' : Below w.heap.size w W1 := hB.trans (hb.mono hB.size)
  clear ba hB hb
  have ba := ba'
  have hB := hB'
  clear ba' hB'
  go_wp2_with fail
  refine (K2.out _).mono ?_
  rintro e W2 ⟨rfl, hb⟩
  have ba' : Blk W2 w.heap.size (rc ⟨3, 0, 0, 0, 0, 1, 2, 3, 1⟩) 27 := (hb.block _ ba.lt).trans ba
  have hB' : Below w.heap.size w W2 := hB.trans (hb.mono hB.size)
  clear ba hB hb
  have ba := ba'
  have hB := hB'
  clear ba' hB'
  go_wp2_with fail
  refine (K3.out _).mono ?_
  rintro e W3 ⟨rfl, hb⟩
  have ba' : Blk W3 w.heap.size (rc ⟨3, 0, 0, 0, 0, 1, 2, 3, 1⟩) 27 := (hb.block _ ba.lt).trans ba
  have hB' : Below w.heap.size w W3 := hB.trans (hb.mono hB.size)
  clear ba hB hb
  have ba := ba'
  have hB := hB'
  clear ba' hB'
  go_wp2_with fail
  refine (K5.out _).mono ?_
  rintro e W5 ⟨rfl, hb⟩
  have ba' : Blk W5 w.heap.size (rc ⟨3, 0, 0, 0, 0, 1, 2, 3, 1⟩) 27 := (hb.block _ ba.lt).trans ba
  have hB' : Below w.heap.size w W5 := hB.trans (hb.mono hB.size)
  clear ba hB hb
  have ba := ba'
  have hB := hB'
  clear ba' hB'
  have hn : Blk (W5.alloc (.cells (rc R.zero) 27)) W5.heap.size (rc R.zero) 27 := heap_alloc_new W5 _
  have hx : Blk ((W5.alloc (.cells (rc R.zero) 27)).setRow W5.heap.size (rc ⟨3, 0, 0, 0, 0, 1, 2, 3, 1⟩)) W5.heap.size (rc ⟨3, 0, 0, 0, 0, 1, 2, 3, 1⟩) 27 := setRow_heap _ _ _ _ _ _ hn
  have ba4 : Blk ((W5.alloc (.cells (rc R.zero) 27)).setRow W5.heap.size (rc ⟨3, 0, 0, 0, 0, 1, 2, 3, 1⟩)) w.heap.size (rc ⟨3, 0, 0, 0, 0, 1, 2, 3, 1⟩) 27 := (setRow_other _ _ _ _ (Nat.ne_of_lt ba.lt)).trans (ba.alloc _)
  have hB' : Below w.heap.size w ((W5.alloc (.cells (rc R.zero) 27)).setRow W5.heap.size (rc ⟨3, 0, 0, 0, 0, 1, 2, 3, 1⟩)) := below_setRow (hB.alloc hB.size _) hB.size _
  clear ba hB
  have hB := hB'
  clear hB'
  go_wp2_with (first | (refine store_rec (.tmp 4) (.tmp 40) W5.heap.size R.zero ⟨3, 0, 0, 0, 0, 1, 2, 3, 1⟩ hn rfl rfl rfl rfl rfl ?_) | (refine load_rec (.tmp 4) W5.heap.size ⟨3, 0, 0, 0, 0, 1, 2, 3, 1⟩ hx rfl rfl rfl ?_) | (refine load_rec (.tmp 1) w.heap.size ⟨3, 0, 0, 0, 0, 1, 2, 3, 1⟩ ba4 rfl rfl rfl ?_) | (refine neq_rec (.tmp 42) (.tmp 43) ⟨3, 0, 0, 0, 0, 1, 2, 3, 1⟩ ⟨3, 0, 0, 0, 0, 1, 2, 3, 1⟩ true (decide_eq_true rfl) rfl rfl rfl rfl ?_))
  refine (K6.out _).mono ?_
  rintro e W6 ⟨rfl, hb⟩
  have hB' : Below w.heap.size w W6 := hB.trans (hb.mono hB.size)
  clear hB hb
  have hB := hB'
  clear hB'
  clear hn hx ba4
  go_wp2_with fail
  refine (K7.out _).mono ?_
  rintro e W7 ⟨rfl, hb⟩
  have hB' : Below w.heap.size w W7 := hB.trans (hb.mono hB.size)
  clear hB hb
  have hB := hB'
  clear hB'
  go_wp2_with fail
  refine (K8.out _).mono ?_
  rintro e W8 ⟨rfl, hb⟩
  have hB' : Below w.heap.size w W8 := hB.trans (hb.mono hB.size)
  clear hB hb
  have hB := hB'
  clear hB'
  go_wp2_with fail
  refine (K9.out _).mono ?_
  rintro e W9 ⟨rfl, hb⟩
  have hB' : Below w.heap.size w W9 := hB.trans (hb.mono hB.size)
  clear hB hb
  have hB := hB'
  clear hB'
  go_wp2_with fail
  refine (K10.out _).mono ?_
  rintro e W10 ⟨rfl, hb⟩
  have hB' : Below w.heap.size w W10 := hB.trans (hb.mono hB.size)
  clear hB hb
  have hB := hB'
  clear hB'
  go_wp2_with fail
  refine (K11.out _).mono ?_
  rintro e W11 ⟨rfl, hb⟩
  have hB' : Below w.heap.size w W11 := hB.trans (hb.mono hB.size)
  clear hB hb
  have hB := hB'
  clear hB'
  go_wp2_with fail
  refine (K12.out _).mono ?_
  rintro e W12 ⟨rfl, hb⟩
  have hB' : Below w.heap.size w W12 := hB.trans (hb.mono hB.size)
  clear hB hb
  have hB := hB'
  clear hB'
  go_wp2_with fail
  refine (K13.out _).mono ?_
  rintro e W13 ⟨rfl, hb⟩
  have hB' : Below w.heap.size w W13 := hB.trans (hb.mono hB.size)
  clear hB hb
  have hB := hB'
  clear hB'
  go_wp2_with fail
  refine (K14.out _).mono ?_
  rintro e W14 ⟨rfl, hb⟩
  have hB' : Below w.heap.size w W14 := hB.trans (hb.mono hB.size)
  clear hB hb
  have hB := hB'
  clear hB'
  go_wp2_with fail
  refine (K15.out _).mono ?_
  rintro e W15 ⟨rfl, hb⟩
  have hB' : Below w.heap.size w W15 := hB.trans (hb.mono hB.size)
  clear hB hb
  have hB := hB'
  clear hB'
  go_wp2_with fail
  refine (K16.out _).mono ?_
  rintro e W16 ⟨rfl, hb⟩
  have hB' : Below w.heap.size w W16 := hB.trans (hb.mono hB.size)
  clear hB hb
  have hB := hB'
  clear hB'
  go_wp2_with fail
  refine (K17.out _).mono ?_
  rintro e W17 ⟨rfl, hb⟩
  have hB' : Below w.heap.size w W17 := hB.trans (hb.mono hB.size)
  clear hB hb
  have hB := hB'
  clear hB'
  go_wp2
  go_ret
  exact ⟨rfl, hB⟩
end Go.Proofs.Ytghgefiaijfbgaa.Rec
