/- The small functions of the laws of the layer record; the laws RecordPuts and RecordTakes: walked. Conditions: the numbers are what their types bear. -/
import Derived.Test.YtghgefiaijfbgaaRecJ
namespace Go.Proofs.Ytghgefiaijfbgaa.Rec
open Go.RowKit Go.Proofs.Ytghgefiaijfbgaa.Crc Go.Proofs.Ytghgefiaijfbgaa.Codec
set_option linter.unusedVariables false
set_option maxRecDepth 100000 in
theorem puts_yes (r : R) (t : ByteArray) (w : World) (hr : r.wf) (h : bs r.put.1 = t) (h2 : r.put.2 = 0) :
    Calls Try.prog 13 #[.agg (rc r), .string t] w fun e w' => e = .returned (.bool true) ∧ Below w.heap.size w w' := by
  have hP := fun W => put_any r W hr
  rw [h, h2] at hP
  have HP := Lib.hid hP
  clear hP h h2 hr
  obtain ⟨kind, frame, own, p0, p1, seg, first, epoch, player⟩ := r
  dsimp only [rc] at *
  go_enter Try.func13, Try.ntmps13
  go_wp2_with fail
  refine (HP.out _).mono ?_
  rintro e w1 ⟨rfl, hb⟩
  have hB : Below w.heap.size w w1 := ((Below.refl _ w).alloc (Nat.le_refl _) _).trans (hb.mono (by simp))
  clear hb
  go_wp2
  go_ret
  exact ⟨rfl, hB⟩
set_option maxRecDepth 100000 in
theorem none_yes (r : R) (w : World) (hr : r.wf) (h : ¬ r.may) :
    Calls Try.prog 14 #[.agg (rc r)] w fun e w' => e = .returned (.bool true) ∧ Below w.heap.size w w' := by
  have hP := fun W => put_any r W hr
  unfold R.put at hP
  rw [if_neg h, show bs ([], (4 : Int)).1 = ⟨#[]⟩ from rfl] at hP
  have HP := Lib.hid hP
  clear hP h hr
  obtain ⟨kind, frame, own, p0, p1, seg, first, epoch, player⟩ := r
  dsimp only [rc] at *
  go_enter Try.func14, Try.ntmps14
  go_wp2_with fail
  refine (HP.out _).mono ?_
  rintro e w1 ⟨rfl, hb⟩
  have hB : Below w.heap.size w w1 := ((Below.refl _ w).alloc (Nat.le_refl _) _).trans (hb.mono (by simp))
  clear hb
  go_wp2
  go_ret
  exact ⟨rfl, hB⟩
set_option maxRecDepth 100000 in
theorem fails_yes (l : List UInt8) (e : Int) (w : World) (hl : l.length ≤ maxLen) (h : tR l = (R.zero, e)) :
    Calls Try.prog 12 #[.string (bs l), .int .i64 e] w fun r w' => r = .returned (.bool true) ∧ Below w.heap.size w w' := by
  have hT := fun W => take_any l W hl
  rw [h] at hT
  have HT := Lib.hid hT
  clear hT h hl
  go_enter Try.func12, Try.ntmps12
  go_wp2_with fail
  refine (HT.out _).mono ?_
  rintro r w1 ⟨rfl, hb⟩
  have hB : Below w.heap.size w w1 := hb
  have hn : Blk (w1.alloc (.cells (rc R.zero) 27)) w1.heap.size (rc R.zero) 27 := heap_alloc_new w1 _
  have hs : Blk ((w1.alloc (.cells (rc R.zero) 27)).setRow w1.heap.size (rc R.zero)) w1.heap.size (rc R.zero) 27 := setRow_heap _ _ _ _ _ _ hn
  go_wp2_with (first | (refine store_rec (.tmp 5) (.tmp 10) w1.heap.size R.zero R.zero hn rfl rfl rfl rfl rfl ?_) | (refine load_rec (.tmp 5) w1.heap.size R.zero hs rfl rfl rfl ?_) | (refine eql_rec (.tmp 12) (.tmp 13) R.zero R.zero true (by decide) rfl rfl rfl rfl ?_))
  go_ret
  exact ⟨rfl, below_setRow (hB.alloc hB.size _) hB.size _⟩
theorem wf_of (k a b c d e f g h : Nat) (h1 : k < 1000 ∧ a < 18446744073709551616 ∧ b < 256 ∧ c < 256 ∧ d < 256 ∧ e < 18446744073709551616 ∧ f < 18446744073709551616 ∧ g < 18446744073709551616 ∧ h < 256) : R.wf ⟨k, a, b, c, d, e, f, g, h⟩ := by
  obtain ⟨h1, h2, h3, h4, h5, h6, h7, h8, h9⟩ := h1
  constructor <;> simp <;> omega
set_option maxRecDepth 100000 in
theorem awake_any (w : World) :
    Calls Try.prog 9 #[] w fun r w' => r = .returned (.bool true) ∧ Below w.heap.size w w' := by
  have h1 := fun W => puts_yes ⟨1, 258, 5, 0, 0, 0, 0, 0, 0⟩ ⟨#[1, 2, 1, 0, 0, 0, 0, 0, 0, 5]⟩ W (wf_of 1 258 5 0 0 0 0 0 0 (by decide)) (by decide +kernel) (by decide +kernel)
  have h2 := fun W => none_yes ⟨4, 0, 0, 0, 0, 0, 0, 0, 0⟩ W (wf_of 4 0 0 0 0 0 0 0 0 (by decide)) (by decide +kernel)
  have h3 := fun W => fails_yes [] 10 W (by decide) rfl
  have H1 := Lib.hid h1
  have H2 := Lib.hid h2
  have H3 := Lib.hid h3
  clear h1 h2 h3
  go_enter Try.func9, Try.ntmps9
  go_wp2_with fail
  refine (H1.out _).mono ?_
  rintro r w1 ⟨rfl, hb1⟩
  go_wp2_with fail
  refine (H2.out _).mono ?_
  rintro r w2 ⟨rfl, hb2⟩
  have hb3 := hb1.trans (hb2.mono hb1.size)
  go_wp2_with fail
  refine (H3.out _).mono ?_
  rintro r w3 ⟨rfl, hb4⟩
  have hb5 := hb3.trans (hb4.mono hb3.size)
  go_wp2
  go_ret
  exact ⟨rfl, hb5⟩
set_option maxRecDepth 100000 in
/-- P15.1: the law RecordPuts. -/
theorem puts_law (r : R) (w : World) (hr : r.wf) :
    Calls Try.prog 3 #[.agg (rc r)] w fun e w' => e = .returned (.bool true) ∧ Below w.heap.size w w' := by
  have hP := fun W => put_any r W hr
  have hR := fun W => rput_any r W hr
  generalize bs r.put.1 = T at hP hR
  generalize r.put.2 = E at hP hR
  have HP := Lib.hid hP
  have HR := Lib.hid hR
  clear hP hR hr
  have hbl : Blk (w.alloc (.cells (rc r) 27)) w.heap.size (rc r) 27 := heap_alloc_new w _
  obtain ⟨kind, frame, own, p0, p1, seg, first, epoch, player⟩ := r
  have HBL := Lib.hid hbl
  clear hbl
  dsimp only [rc] at *
  go_enter Try.func3, Try.ntmps3
  go_wp2_with fail
  refine (HP.out _).mono ?_
  rintro e w1 ⟨rfl, hb⟩
  have hB : Below w.heap.size w w1 := ((Below.refl _ w).alloc (Nat.le_refl _) _).trans (hb.mono (by simp))
  have hbl1 : Blk w1 w.heap.size (rc ⟨kind, frame, own, p0, p1, seg, first, epoch, player⟩) 27 := (hb.block _ (by simp)).trans HBL.out
  clear hb
  go_wp2_with (refine load_rec (.tmp 1) w.heap.size ⟨kind, frame, own, p0, p1, seg, first, epoch, player⟩ hbl1 rfl rfl rfl ?_)
  refine (HR.out _).mono ?_
  rintro e w2 ⟨rfl, hb⟩
  have hB2 : Below w.heap.size w w2 := hB.trans (hb.mono hB.size)
  clear hb hbl1 hB
  go_wp2_with fail
  refine (awake_any w2).mono ?_
  rintro e w3 ⟨rfl, hb⟩
  have hB3 : Below w.heap.size w w3 := hB2.trans (hb.mono hB2.size)
  clear hb hB2
  go_wp2
  go_ret
  exact ⟨rfl, hB3⟩
set_option maxRecDepth 100000 in
/-- P15.1: the law RecordTakes. -/
theorem takes_law (s : ByteArray) (w : World) (hs : s.size ≤ maxLen) :
    Calls Try.prog 4 #[.string s] w fun e w' => e = .returned (.bool true) ∧ Below w.heap.size w w' := by
  unfold maxLen at hs
  by_cases h : s.size ≤ 3000
  · have hT := fun W => take_any s.data.toList W (by rw [Array.length_toList]; exact hs)
    have hR := fun W => rtake_any s.data.toList W (by rw [Array.length_toList]; exact hs)
    rw [to_bs] at hT hR
    generalize (tR s.data.toList).1 = r at hT hR
    generalize (tR s.data.toList).2 = E at hT hR
    have HT := Lib.hid hT
    have HR := Lib.hid hR
    clear hT hR
    go_enter Try.func4, Try.ntmps4
    go_wp2_with fail
    refine (HT.out _).mono ?_
    rintro e w1 ⟨rfl, hb⟩
    have hn : Blk (w1.alloc (.cells (rc R.zero) 27)) w1.heap.size (rc R.zero) 27 := heap_alloc_new w1 _
    have hs1 : Blk ((w1.alloc (.cells (rc R.zero) 27)).setRow w1.heap.size (rc r)) w1.heap.size (rc r) 27 := setRow_heap _ _ _ _ _ _ hn
    have hB1 : Below w.heap.size w ((w1.alloc (.cells (rc R.zero) 27)).setRow w1.heap.size (rc r)) := below_setRow (hb.alloc hb.size _) hb.size _
    have hz : w1.heap.size < ((w1.alloc (.cells (rc R.zero) 27)).setRow w1.heap.size (rc r)).heap.size := by simp
    go_wp2_with (refine store_rec (.tmp 3) (.tmp 14) w1.heap.size R.zero r hn rfl rfl rfl rfl rfl ?_)
    refine (HR.out _).mono ?_
    rintro e w2 ⟨rfl, hb2⟩
    have hs2 : Blk w2 w1.heap.size (rc r) 27 := (hb2.block _ hz).trans hs1
    have hB2 : Below w.heap.size w w2 := hB1.trans (hb2.mono hB1.size)
    clear hn hs1 hB1 hz hb hb2
    have hn : Blk (w2.alloc (.cells (rc R.zero) 33)) w2.heap.size (rc R.zero) 33 := heap_alloc_new w2 _
    have hs3 : Blk ((w2.alloc (.cells (rc R.zero) 33)).setRow w2.heap.size (rc r)) w2.heap.size (rc r) 33 := setRow_heap _ _ _ _ _ _ hn
    have hs4 : Blk ((w2.alloc (.cells (rc R.zero) 33)).setRow w2.heap.size (rc r)) w1.heap.size (rc r) 27 := (setRow_other _ _ _ _ (Nat.ne_of_lt hs2.lt)).trans (hs2.alloc _)
    have hB3 : Below w.heap.size w ((w2.alloc (.cells (rc R.zero) 33)).setRow w2.heap.size (rc r)) := below_setRow (hB2.alloc hB2.size _) hB2.size _
    clear hs2 hB2
    go_wp2_with (first | (refine store_rrec (.tmp 5) (.tmp 19) w2.heap.size R.zero r hn rfl rfl rfl rfl rfl ?_) | (refine load_rec (.tmp 3) w1.heap.size r hs4 rfl rfl rfl ?_) | (refine load_rrec (.tmp 5) w2.heap.size r hs3 rfl rfl rfl ?_) | (refine eql_rrec (.tmp 21) (.tmp 22) r r true (decide_eq_true rfl) rfl rfl rfl rfl ?_))
    refine (awake_any _).mono ?_
    rintro e w3 ⟨rfl, hb⟩
    have hB4 : Below w.heap.size w w3 := hB3.trans (hb.mono hB3.size)
    clear hb hB3 hn hs3 hs4
    go_wp2
    go_ret
    exact ⟨rfl, hB4⟩
  · have h' : 3000 < s.size := by omega
    go_enter Try.func4, Try.ntmps4
    go_wp2_with fail
    refine (awake_any w).mono ?_
    rintro e w3 ⟨rfl, hb⟩
    go_wp2
    go_ret
    exact ⟨rfl, hb⟩
end Go.Proofs.Ytghgefiaijfbgaa.Rec
