/- What the program's Next of the layer frame answers: walked. Condition: the world holds the table. -/
import Derived.Test.YtdgbililgkhjfaaDoorFrameA
namespace Go.Proofs.YtdgbililgkhjfaaDoor.Frame
open Go.RowKit Go.Proofs.YtdgbililgkhjfaaDoor.Crc Go.Proofs.YtdgbililgkhjfaaDoor.Codec Go.Proofs.YtdgbililgkhjfaaDoor.CrcWalk
set_option linter.unusedVariables false
theorem ex_list (s : ByteArray) (a b : Nat) : (s.extract a b).data.toList = (s.data.toList.drop a).take (b - a) := by
  simp [ByteArray.data_extract, List.extract_eq_take_drop]
theorem ex_end (s : ByteArray) (a : Nat) : (s.extract a s.size).data.toList = s.data.toList.drop a := by
  rw [ex_list]; apply List.take_of_length_le; simp
theorem ex_take (s : ByteArray) (b : Nat) : (s.extract 0 b).data.toList = s.data.toList.take b := by rw [ex_list, List.drop_zero, Nat.sub_zero]
theorem eq_bs {s : ByteArray} {l : List UInt8} (h : s.data.toList = l) : s = bs l := by rw [← h, to_bs]
theorem size_list (s : ByteArray) : s.size = s.data.toList.length := by simp
theorem tab_drewN {w : World} (h : Tab w) (n : Nat) : Tab (w.drewN n) := fun i hi => by have := h i hi; simpa using this
theorem bel_drewN {B : Nat} {a w : World} (h : Below B a w) (n : Nat) : Below B a (w.drewN n) := ⟨h.os, h.tape, h.output, h.size, h.block⟩
set_option maxRecDepth 100000 in
set_option maxHeartbeats 1000000 in
/-- What 'Next' answers. -/
theorem next_any (s : ByteArray) (w : World) (hs : s.size ≤ maxLen) (hT : Tab w) :
    Calls Tryd.prog 65 #[.string s] w fun r w' => r = .returned (.tuple #[.string (bs (fnP s.data.toList)), .int .i64 (fnU s.data.toList : Nat), .int .i64 (fnE s.data.toList)]) ∧ Below w.heap.size w w' := by
  have hs1 := hs
  unfold maxLen at hs1
  obtain ⟨l, hl⟩ : ∃ l, l = s.data.toList := ⟨_, rfl⟩
  have hlen : l.length = s.size := by rw [hl]; simp
  rw [← hl]
  by_cases h6 : s.size < 6
  · have e1 : fnP l = [] := by unfold fnP; rw [if_pos (by omega)]
    have e2 : fnU l = 0 := by unfold fnU; rw [if_pos (by omega)]
    have e3 : fnE l = 10 := by unfold fnE; rw [if_pos (by omega)]
    rw [e1, e2, e3]
    clear e1 e2 e3 hlen hl
    go_enter Tryd.func65, Tryd.ntmps65
    go_wp2
    go_ret3
    exact ⟨rfl, Below.refl _ _⟩
  · have p6 : ¬ l.length < 6 := by omega
    obtain ⟨q2, hq2⟩ : ∃ q, q = s.extract 2 s.size := ⟨_, rfl⟩
    have hq2l : q2.data.toList = l.drop 2 := by rw [hq2, ex_end, hl]
    have hq2s : q2.size = s.size - 2 := by rw [size_list, hq2l, List.length_drop, hlen]
    obtain ⟨q6, hq6⟩ : ∃ q, q = q2.extract 4 q2.size := ⟨_, rfl⟩
    have hq6l : q6.data.toList = l.drop 6 := by rw [hq6, ex_end, hq2l, List.drop_drop]
    have hq6s : q6.size = s.size - 6 := by rw [size_list, hq6l, List.length_drop, hlen]
    have r2 : tkR 2 s 0 = q2 := by unfold tkR; rw [if_pos rfl, if_pos (by omega), hq2]
    have r2e : tkE 2 s 0 = 0 := by unfold tkE; rw [if_pos rfl, if_pos (by omega)]
    have r2s : (tkS 2 s 0).data.toList = l.take 2 := by unfold tkS; rw [if_pos rfl, if_pos (by omega), ex_take, hl]
    have r4 : tkR 4 q2 0 = q6 := by unfold tkR; rw [if_pos rfl, if_pos (by omega), hq6]
    have r4e : tkE 4 q2 0 = 0 := by unfold tkE; rw [if_pos rfl, if_pos (by omega)]
    have r4s : (tkS 4 q2 0).data.toList = (l.drop 2).take 4 := by unfold tkS; rw [if_pos rfl, if_pos (by omega), ex_take, hq2l]
    obtain ⟨n, hn⟩ : ∃ n, n = V (l.take 2) := ⟨_, rfl⟩
    have hnl : n < 65536 := by
      rw [hn]; have := V_lt (l.take 2)
      rw [List.length_take, Nat.min_eq_left (by omega)] at this
      exact this
    obtain ⟨m, hm⟩ : ∃ m, m = V ((l.drop 2).take 4) := ⟨_, rfl⟩
    have hml : m < 4294967296 := by
      rw [hm]; have := V_lt ((l.drop 2).take 4)
      rw [List.length_take, List.length_drop, Nat.min_eq_left (by omega)] at this
      exact this
    have cnew := new_any s w
    have cu16 := fun W (h : Rd W w.heap.size s 0) => read_u16 w.heap.size s 0 W hs h
    rw [r2, r2e, r2s, ← hn] at cu16
    have cu32 := fun W (h : Rd W w.heap.size q2 0) => read_u32 w.heap.size q2 0 W (by omega) h
    rw [r4, r4e, r4s, ← hm] at cu32
    have CN := Lib.hid cnew
    have C16 := Lib.hid cu16
    have C32 := Lib.hid cu32
    clear cnew cu16 cu32 r2 r2e r2s r4 r4e r4s hq2 hq6 hq2l hq2s
    have hq6b : q6.size ≤ 9223372036854775807 := by omega
    by_cases h4096 : 4096 < n
    · have e1 : fnP l = [] := by unfold fnP; rw [if_neg p6, ← hn, if_pos h4096]
      have e2 : fnU l = 0 := by unfold fnU; rw [if_neg p6, ← hn, if_pos h4096]
      have e3 : fnE l = 3 := by unfold fnE; rw [if_neg p6, ← hn, if_pos h4096]
      rw [e1, e2, e3]
      clear e1 e2 e3 hlen hl hn hm hq6l hq6s
      go_enter Tryd.func65, Tryd.ntmps65
      go_wp2_with fail
      refine CN.out.mono ?_
      rintro r w1 ⟨rfl, hr1, hw1, _⟩
      go_wp2_with fail
      refine (C16.out w1 hr1).mono ?_
      rintro r w2 ⟨rfl, hr2, hw2⟩
      go_wp2_with fail
      refine (C32.out w2 hr2).mono ?_
      rintro r w3 ⟨rfl, hr3, hw3⟩
      go_wp2_with fail
      refine (rest_any w.heap.size q6 0 w3 hr3).mono ?_
      rintro r w' ⟨rfl, rfl⟩
      have hb := (hw1.trans (hw2.below hw1.size (Nat.le_refl _))).trans (hw3.below (Nat.le_trans hw1.size hw2.size) (Nat.le_refl _))
      clear hr1 hr2 hr3
      go_wp2
      go_ret3
      exact ⟨rfl, hb⟩
    · by_cases hlt : q6.size < n
      · have hlt' : l.length - 6 < n := by omega
        have e1 : fnP l = [] := by unfold fnP; rw [if_neg p6, ← hn, if_neg h4096, if_pos hlt']
        have e2 : fnU l = 0 := by unfold fnU; rw [if_neg p6, ← hn, if_neg h4096, if_pos hlt']
        have e3 : fnE l = 10 := by unfold fnE; rw [if_neg p6, ← hn, if_neg h4096, if_pos hlt']
        rw [e1, e2, e3]
        clear e1 e2 e3 hlen hl hn hm hq6l hq6s hlt'
        go_enter Tryd.func65, Tryd.ntmps65
        go_wp2_with fail
        refine CN.out.mono ?_
        rintro r w1 ⟨rfl, hr1, hw1, _⟩
        go_wp2_with fail
        refine (C16.out w1 hr1).mono ?_
        rintro r w2 ⟨rfl, hr2, hw2⟩
        go_wp2_with fail
        refine (C32.out w2 hr2).mono ?_
        rintro r w3 ⟨rfl, hr3, hw3⟩
        go_wp2_with fail
        refine (rest_any w.heap.size q6 0 w3 hr3).mono ?_
        rintro r w' ⟨rfl, rfl⟩
        have hb := (hw1.trans (hw2.below hw1.size (Nat.le_refl _))).trans (hw3.below (Nat.le_trans hw1.size hw2.size) (Nat.le_refl _))
        clear hr1 hr2 hr3
        go_wp2
        go_ret3
        exact ⟨rfl, hb⟩
      · have hlt' : ¬ l.length - 6 < n := by omega
        obtain ⟨pp, hpp⟩ : ∃ pp, pp = q6.extract 0 n := ⟨_, rfl⟩
        have hppl : pp.data.toList = (l.drop 6).take n := by rw [hpp, ex_take, hq6l]
        have hpps : pp.size ≤ maxLen := by rw [size_list, hppl, List.length_take]; unfold maxLen; omega
        obtain ⟨hd, hhd⟩ : ∃ hd, hd = s.extract 0 2 := ⟨_, rfl⟩
        have hhdl : hd.data.toList = l.take 2 := by rw [hhd, ex_take, hl]
        have hhds : hd.size ≤ maxLen := by rw [size_list, hhdl, List.length_take]; unfold maxLen; omega
        obtain ⟨x, hx⟩ : ∃ x, x = crc 0 (l.take 2) := ⟨_, rfl⟩
        have hxl : x < 4294967296 := by rw [hx]; exact crc_lt (by decide) _
        obtain ⟨y, hy⟩ : ∃ y, y = crc 0 (l.take 2 ++ (l.drop 6).take n) := ⟨_, rfl⟩
        have csum := fun W (h : Tab W) => sum_any hd W hhds h
        rw [hhdl, ← hx] at csum
        have cup := fun W (h : Tab W) => update_any x pp W hxl hpps h
        rw [hppl, hx, ← crc_append, ← hy, ← hx] at cup
        have CS := Lib.hid csum
        have CU := Lib.hid cup
        have ecut1 : s.extract 0 2 = hd := hhd.symm
        have ecut2 : q6.extract 0 n = pp := hpp.symm
        clear csum cup hpp hhd
        by_cases hc : y = m
        · have hc' : crc 0 (l.take 2 ++ (l.drop 6).take n) = m := by rw [← hy]; exact hc
          have e1 : fnP l = (l.drop 6).take n := by unfold fnP; rw [if_neg p6, ← hn, if_neg h4096, if_neg hlt', ← hm, if_pos hc']
          have e2 : fnU l = 6 + n := by unfold fnU; rw [if_neg p6, ← hn, if_neg h4096, if_neg hlt', ← hm, if_pos hc']
          have e3 : fnE l = 0 := by unfold fnE; rw [if_neg p6, ← hn, if_neg h4096, if_neg hlt', ← hm, if_pos hc']
          have epp := eq_bs hppl
          rw [e1, e2, e3, ← epp]
          have hbn : ((y : Int) != (m : Int)) = false := by simp [hc]
          clear e1 e2 e3 hlen hl hn hm hq6l hq6s hlt' hc hc' hx hy hppl hhdl epp
          go_enter Tryd.func65, Tryd.ntmps65
          go_wp2_with fail
          refine CN.out.mono ?_
          rintro r w1 ⟨rfl, hr1, hw1, _⟩
          go_wp2_with fail
          refine (C16.out w1 hr1).mono ?_
          rintro r w2 ⟨rfl, hr2, hw2⟩
          go_wp2_with fail
          refine (C32.out w2 hr2).mono ?_
          rintro r w3 ⟨rfl, hr3, hw3⟩
          go_wp2_with fail
          refine (rest_any w.heap.size q6 0 w3 hr3).mono ?_
          rintro r w' ⟨rfl, rfl⟩
          have hb := (hw1.trans (hw2.below hw1.size (Nat.le_refl _))).trans (hw3.below (Nat.le_trans hw1.size hw2.size) (Nat.le_refl _))
          have hT3 := tab_below hT hb
          clear hr1 hr2 hr3
          go_wp2_with fail
          go_quiet (first | (go_at_call 98; exact Calls.quiet_of_same ((CS.out _ (tab_drewN hT3 _)).mono fun _ _ h => ⟨h.1, h.2.symm⟩)) | (go_at_call 97; exact Calls.quiet_of_same ((CU.out _ (tab_drewN hT3 _)).mono fun _ _ h => ⟨h.1, h.2.symm⟩)))
          go_wp2
          go_ret3
          exact ⟨rfl, bel_drewN hb _⟩
        · have hc' : ¬ crc 0 (l.take 2 ++ (l.drop 6).take n) = m := by rw [← hy]; exact hc
          have e1 : fnP l = [] := by unfold fnP; rw [if_neg p6, ← hn, if_neg h4096, if_neg hlt', ← hm, if_neg hc']
          have e2 : fnU l = 0 := by unfold fnU; rw [if_neg p6, ← hn, if_neg h4096, if_neg hlt', ← hm, if_neg hc']
          have e3 : fnE l = 9 := by unfold fnE; rw [if_neg p6, ← hn, if_neg h4096, if_neg hlt', ← hm, if_neg hc']
          rw [e1, e2, e3]
          have hbn : ((y : Int) != (m : Int)) = true := by simp; omega
          clear e1 e2 e3 hlen hl hn hm hq6l hq6s hlt' hc hc' hx hy hppl hhdl
          go_enter Tryd.func65, Tryd.ntmps65
          go_wp2_with fail
          refine CN.out.mono ?_
          rintro r w1 ⟨rfl, hr1, hw1, _⟩
          go_wp2_with fail
          refine (C16.out w1 hr1).mono ?_
          rintro r w2 ⟨rfl, hr2, hw2⟩
          go_wp2_with fail
          refine (C32.out w2 hr2).mono ?_
          rintro r w3 ⟨rfl, hr3, hw3⟩
          go_wp2_with fail
          refine (rest_any w.heap.size q6 0 w3 hr3).mono ?_
          rintro r w' ⟨rfl, rfl⟩
          have hb := (hw1.trans (hw2.below hw1.size (Nat.le_refl _))).trans (hw3.below (Nat.le_trans hw1.size hw2.size) (Nat.le_refl _))
          have hT3 := tab_below hT hb
          clear hr1 hr2 hr3
          go_wp2_with fail
          go_quiet (first | (go_at_call 98; exact Calls.quiet_of_same ((CS.out _ (tab_drewN hT3 _)).mono fun _ _ h => ⟨h.1, h.2.symm⟩)) | (go_at_call 97; exact Calls.quiet_of_same ((CU.out _ (tab_drewN hT3 _)).mono fun _ _ h => ⟨h.1, h.2.symm⟩)))
          go_wp2
          go_ret3
          exact ⟨rfl, bel_drewN hb _⟩
end Go.Proofs.YtdgbililgkhjfaaDoor.Frame
