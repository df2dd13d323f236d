/- few, and the law PacketBack: walked. Conditions: the numbers are what their types bear, the lists lie in memory, the table. -/
import Derived.Test.YtdgbililgkhjfaaDoorPkX
import Derived.Test.YtdgbililgkhjfaaDoorPkY0
namespace Go.Proofs.YtdgbililgkhjfaaDoor.Pk
open Go.RowKit Go.Proofs.YtdgbililgkhjfaaDoor.Crc Go.Proofs.YtdgbililgkhjfaaDoor.Codec Go.Proofs.YtdgbililgkhjfaaDoor.CrcWalk Go.Proofs.YtdgbililgkhjfaaDoor.Frame
set_option linter.unusedVariables false
abbrev PT := 26
abbrev nilS : Value := .slice none 0 0
abbrev zeroP (W : World) : World := W.alloc (.cells (pc K.zero (.slice none 0 0) (.slice none 0 0)) 26)
set_option maxRecDepth 100000 in
theorem few_any (k : K) (b b' : Option Addr) (n n' c c' : Nat) (w : World) :
    Calls Tryd.prog 16 #[.agg (pc k (.slice b n c) (.slice b' n' c'))] w fun r w' => r = .returned (.bool (decide (n ≤ 200 ∧ n' ≤ 200))) ∧ Below w.heap.size w w' := by
  by_cases h1 : n ≤ 200
  · have e1 : decide ((n : Int) ≤ 200) = true := decide_eq_true (by omega)
    by_cases h2 : n' ≤ 200
    · have e2 : decide ((n' : Int) ≤ 200) = true := decide_eq_true (by omega)
      rw [decide_eq_true ⟨h1, h2⟩]
      clear h1 h2
      unfold pc
      go_enter Tryd.func16, Tryd.ntmps16
      go_wp2
      go_ret
      exact ⟨rfl, (Below.refl _ w).alloc (Nat.le_refl _) _⟩
    · have e2 : decide ((n' : Int) ≤ 200) = false := decide_eq_false (by omega)
      rw [decide_eq_false (fun h => h2 h.2)]
      clear h1 h2
      unfold pc
      go_enter Tryd.func16, Tryd.ntmps16
      go_wp2
      go_ret
      exact ⟨rfl, (Below.refl _ w).alloc (Nat.le_refl _) _⟩
  · have e1 : decide ((n : Int) ≤ 200) = false := decide_eq_false (by omega)
    rw [decide_eq_false (fun h => h1 h.1)]
    clear h1
    unfold pc
    go_enter Tryd.func16, Tryd.ntmps16
    go_wp2
    go_ret
    exact ⟨rfl, (Below.refl _ w).alloc (Nat.le_refl _) _⟩
set_option maxRecDepth 100000 in
set_option maxHeartbeats 4000000 in
theorem back_many (k : K) (b b' : Option Addr) (n n' c c' : Nat) (s : ByteArray) (w : World) (hT : Tab w) (h : ¬ (n ≤ 200 ∧ n' ≤ 200) ∨ 6000 < s.size) (hs : s.size ≤ 9223372036854775807) :
    Calls Tryd.prog 6 #[.agg (pc k (.slice b n c) (.slice b' n' c')), .string s] w fun r w' => r = .returned (.bool true) ∧ Below w.heap.size w w' := by
  have HF := Lib.hid (fun W => few_any k b b' n n' c c' W)
  have HA := Lib.hid (fun W (h : Below w.heap.size w W) => awake_any W (tab_below hT h))
  clear hT
  by_cases hf : n ≤ 200 ∧ n' ≤ 200
  · rw [decide_eq_true hf] at HF
    have hl : decide ((s.size : Int) > 6000) = true := decide_eq_true (by omega)
    clear hf h
    go_enter Tryd.func6, Tryd.ntmps6
    go_wp2_with (first | (refine load_pk (.tmp 2) w.heap.size k _ _ (heap_alloc_new w _) rfl rfl rfl ?_))
    refine (HF.out _).mono ?_
    rintro e w1 ⟨rfl, hb⟩
    have hB : Below w.heap.size w w1 := ((Below.refl _ w).alloc (Nat.le_refl _) _).trans (hb.mono (by simp))
    clear hb
    go_wp2_with fail
    refine (HA.out _ hB).mono ?_
    rintro e w2 ⟨rfl, hb⟩
    have hB2 := hB.trans (hb.mono hB.size)
    clear hb
    go_wp2
    go_ret
    exact ⟨rfl, hB2⟩
  · rw [decide_eq_false hf] at HF
    clear hf h
    go_enter Tryd.func6, Tryd.ntmps6
    go_wp2_with (first | (refine load_pk (.tmp 2) w.heap.size k _ _ (heap_alloc_new w _) rfl rfl rfl ?_))
    refine (HF.out _).mono ?_
    rintro e w1 ⟨rfl, hb⟩
    have hB : Below w.heap.size w w1 := ((Below.refl _ w).alloc (Nat.le_refl _) _).trans (hb.mono (by simp))
    clear hb
    go_wp2_with fail
    refine (HA.out _ hB).mono ?_
    rintro e w2 ⟨rfl, hb⟩
    have hB2 := hB.trans (hb.mono hB.size)
    clear hb
    go_wp2
    go_ret
    exact ⟨rfl, hB2⟩
set_option maxRecDepth 100000 in
set_option maxHeartbeats 8000000 in
theorem back_few (k : K) (vi vp : Value) (s : ByteArray) (w : World) (hk : k.wf) (hi : Ins w vi k.ins) (hp : Prs w vp k.prs) (hT : Tab w) (hn : k.ins.length ≤ 200 ∧ k.prs.length ≤ 200) (hs : s.size ≤ 6000) :
    Calls Tryd.prog 6 #[.agg (pc k vi vp), .string s] w fun r w' => r = .returned (.bool true) ∧ Below w.heap.size w w' := by
  obtain ⟨b, c, hvi, _⟩ := id hi
  obtain ⟨b', c', hvp, _⟩ := id hp
  have hF := fun W => few_any k b b' k.ins.length k.prs.length c c' W
  rw [decide_eq_true hn, ← hvi, ← hvp] at hF
  have HF := Lib.hid hF
  have HA := Lib.hid (fun W (h : Below w.heap.size w W) => awake_any W (tab_below hT h))
  have HPU := Lib.hid (fun W (h : Below w.heap.size w W) => put_any k vi vp W hk (hi.below h) (hp.below h) (tab_below hT h))
  have HTA := Lib.hid (fun W (h : Below w.heap.size w W) => take_any s W (by unfold maxLen; omega) (tab_below hT h))
  have HTT := Lib.hid (fun l W (hl : l.length ≤ 5000) (h : Below w.heap.size w W) => take_any (bs l) W (by rw [bs_size]; unfold maxLen; omega) (tab_below hT h))
  have HSA := Lib.hid (fun W (h : Below w.heap.size w W) vi2 vp2 (h2 : Ins W vi2 k.ins) (h3 : Prs W vp2 k.prs) => same_any k k vi vp vi2 vp2 W (hi.below h) (hp.below h) h2 h3)
  have HP2 := Lib.hid (fun k2 vi2 vp2 W (h : Below w.heap.size w W) (h1 : k2.wf) (h2 : Ins W vi2 k2.ins) (h3 : Prs W vp2 k2.prs) => put_any k2 vi2 vp2 W h1 h2 h3 (tab_below hT h))
  have hl : decide ((s.size : Int) > 6000) = false := decide_eq_false (by omega)
  rw [decide_eq_true (show k = k from rfl)] at HSA
  clear hF hi hp hT hvi hvp
  go_enter Tryd.func6, Tryd.ntmps6
  go_wp2_with (first | (refine load_pk (.tmp 2) w.heap.size k _ _ (heap_alloc_new w _) rfl rfl rfl ?_))
  refine (HF.out _).mono ?_
  rintro e w1 ⟨rfl, hb⟩
  have hB : Below w.heap.size w w1 := ((Below.refl _ w).alloc (Nat.le_refl _) _).trans (hb.mono (by simp))
  have hp1 : Blk w1 w.heap.size (pc k vi vp) PT := (hb.block _ (by simp)).trans (heap_alloc_new w _)
  clear hb HF
  go_wp2_with (first | (refine load_pk (.tmp 2) w.heap.size k _ _ hp1 rfl rfl rfl ?_))
  refine (HPU.out _ hB).mono ?_
  rintro e w2 ⟨rfl, hb⟩
  have hB2 : Below w.heap.size w w2 := hB.trans (hb.mono hB.size)
  have hp2 : Blk w2 w.heap.size (pc k vi vp) PT := (hb.block _ hp1.lt).trans hp1
  clear hb HPU hB hp1
  by_cases hg : k.may ∧ k.only = k
  · have hpu : pPut k = (fput k.pay, 0) := if_pos hg
    rw [hpu]
    have htt := fun W h => HTT.out (fput k.pay) W (by obtain ⟨l1, l2⟩ := hg.1.lens; rw [fput_length (pay_length k l1 l2)]; have := pay_length k l1 l2; omega) h
    rw [bs_toList, pT_pay hk hg.1, hg.2, if_pos hg.1] at htt
    have HT2 := Lib.hid htt
    clear htt hpu HTT
    dsimp only
    generalize bs (fput k.pay) = TX at *
    go_wp2_with fail
    refine (HT2.out _ hB2).mono ?_
    rintro e w3 ⟨⟨vi3, vp3, rfl, hi3, hp3⟩, hb3⟩
    have hB3 : Below w.heap.size w w3 := hB2.trans (hb3.mono hB2.size)
    have hp3' : Blk w3 w.heap.size (pc k vi vp) PT := (hb3.block _ hp2.lt).trans hp2
    have hs3 := sl_of hi3 hp3
    have hn3 : Blk (zeroP w3) w3.heap.size (pc K.zero nilS nilS) PT := heap_alloc_new w3 _
    have hb4 : Below w3.heap.size w3 ((zeroP w3).setRow w3.heap.size (pc k vi3 vp3)) := below_setRow ((Below.refl _ w3).alloc (Nat.le_refl _) _) (Nat.le_refl _) _
    have hx4 : Blk ((zeroP w3).setRow w3.heap.size (pc k vi3 vp3)) w3.heap.size (pc k vi3 vp3) PT := setRow_heap _ _ _ _ _ _ hn3
    have hr4 : Blk ((zeroP w3).setRow w3.heap.size (pc k vi3 vp3)) w.heap.size (pc k vi vp) PT := (hb4.block _ hp3'.lt).trans hp3'
    have hB4 := hB3.trans (hb4.mono hB3.size)
    have HS4 := Lib.hid (HSA.out _ hB4 vi3 vp3 (hi3.below hb4) (hp3.below hb4))
    clear hb3 hB2 hp2 hi3 hp3 hb4 hB3 hp3' HSA HT2
    go_wp2_with (first | (refine store_pk (.tmp 7) (.tmp 32) w3.heap.size K.zero k _ _ vi3 vp3 hs3 hn3 rfl rfl rfl rfl rfl ?_) | (refine load_pkg (.tmp 7) w3.heap.size k vi3 vp3 hx4 rfl rfl rfl ?_) | (refine load_pkg (.tmp 2) w.heap.size k vi vp hr4 rfl rfl rfl ?_))
    refine HS4.out.mono ?_
    rintro e w4 ⟨rfl, hb4⟩
    have hB4' := hB4.trans (hb4.mono hB4.size)
    clear hb4 hB4 hx4 hr4 hs3 hn3 HS4
    go_wp2_with fail
    refine (HTA.out _ hB4').mono ?_
    rintro e w5 ⟨⟨vi5, vp5, rfl, hi5, hp5⟩, hb5⟩
    have hB5 : Below w.heap.size w w5 := hB4'.trans (hb5.mono hB4'.size)
    have hs5 := sl_of hi5 hp5
    have hn5 : Blk (zeroP w5) w5.heap.size (pc K.zero nilS nilS) PT := heap_alloc_new w5 _
    have hb6 : Below w5.heap.size w5 ((zeroP w5).setRow w5.heap.size (pc (pT s.data.toList).1 vi5 vp5)) := below_setRow ((Below.refl _ w5).alloc (Nat.le_refl _) _) (Nat.le_refl _) _
    have hx6 : Blk ((zeroP w5).setRow w5.heap.size (pc (pT s.data.toList).1 vi5 vp5)) w5.heap.size (pc (pT s.data.toList).1 vi5 vp5) PT := setRow_heap _ _ _ _ _ _ hn5
    have hi6 := hi5.below hb6
    have hp6 := hp5.below hb6
    have hB6 := hB5.trans (hb6.mono hB5.size)
    clear hb5 hi5 hp5 hb6 hB4' HTA
    by_cases hz : (pT s.data.toList).2 = 0
    · obtain ⟨hpp, hwf⟩ := pT_back hz
      have hP2 := HP2.out (pT s.data.toList).1 vi5 vp5 _ hB6 hwf hi6 hp6
      rw [hpp] at hP2
      dsimp only at hP2
      rw [show bs s.data.toList = s from to_bs s] at hP2
      rw [hz] at *
      have HPQ := Lib.hid hP2
      clear hP2 hpp hwf hi6 hp6
      generalize (pT s.data.toList).1 = q at *
      go_wp2_with (first | (refine store_pk (.tmp 9) (.tmp 51) w5.heap.size K.zero q _ _ vi5 vp5 hs5 hn5 rfl rfl rfl rfl rfl ?_) | (refine load_pk (.tmp 9) w5.heap.size q vi5 vp5 hx6 rfl rfl rfl ?_))
      refine HPQ.out.mono ?_
      rintro e w7 ⟨rfl, hb7⟩
      have hB7 := hB6.trans (hb7.mono hB6.size)
      have hss : (s.toList == s.toList) = true := by simp
      clear hb7 hB6
      go_wp2_with fail
      refine (HA.out _ hB7).mono ?_
      rintro e w8 ⟨rfl, hb8⟩
      have hB8 := hB7.trans (hb8.mono hB7.size)
      clear hb8
      go_wp2
      go_ret
      exact ⟨rfl, hB8⟩
    · have hq := pT_err hz
      have hne : ((pT s.data.toList).2 != 0) = true := by rw [bne_iff_ne]; exact hz
      generalize (pT s.data.toList).1 = q at *
      generalize (pT s.data.toList).2 = E at *
      subst hq
      have HSZ := Lib.hid (fun W (h : Below ((zeroP w5).setRow w5.heap.size (pc K.zero vi5 vp5)).heap.size ((zeroP w5).setRow w5.heap.size (pc K.zero vi5 vp5)) W) => same_any K.zero K.zero vi5 vp5 (.slice none 0 0) (.slice none 0 0) W (hi6.below h) (hp6.below h) (ins_nil W) (prs_nil W))
      rw [decide_eq_true (show K.zero = K.zero from rfl)] at HSZ
      clear hz hi6 hp6
      go_wp2_with (first | (refine store_pk (.tmp 9) (.tmp 51) w5.heap.size K.zero K.zero _ _ vi5 vp5 hs5 hn5 rfl rfl rfl rfl rfl ?_) | (refine load_pk (.tmp 9) w5.heap.size K.zero vi5 vp5 hx6 rfl rfl rfl ?_))
      refine (HSZ.out _ (Below.refl _ _)).mono ?_
      rintro e w7 ⟨rfl, hb7⟩
      have hB7 := hB6.trans (hb7.mono hB6.size)
      clear hb7 hB6
      go_wp2_with fail
      refine (HA.out _ hB7).mono ?_
      rintro e w8 ⟨rfl, hb8⟩
      have hB8 := hB7.trans (hb8.mono hB7.size)
      clear hb8
      go_wp2
      go_ret
      exact ⟨rfl, hB8⟩
  · have hpu : pPut k = ([], 4) := if_neg hg
    rw [hpu]
    dsimp only
    rw [show bs [] = ⟨#[]⟩ from rfl]
    clear hpu HTT HSA
    go_wp2_with fail
    refine (HTA.out _ hB2).mono ?_
    rintro e w5 ⟨⟨vi5, vp5, rfl, hi5, hp5⟩, hb5⟩
    have hB5 : Below w.heap.size w w5 := hB2.trans (hb5.mono hB2.size)
    have hs5 := sl_of hi5 hp5
    have hn5 : Blk (zeroP w5) w5.heap.size (pc K.zero nilS nilS) PT := heap_alloc_new w5 _
    have hb6 : Below w5.heap.size w5 ((zeroP w5).setRow w5.heap.size (pc (pT s.data.toList).1 vi5 vp5)) := below_setRow ((Below.refl _ w5).alloc (Nat.le_refl _) _) (Nat.le_refl _) _
    have hx6 : Blk ((zeroP w5).setRow w5.heap.size (pc (pT s.data.toList).1 vi5 vp5)) w5.heap.size (pc (pT s.data.toList).1 vi5 vp5) PT := setRow_heap _ _ _ _ _ _ hn5
    have hi6 := hi5.below hb6
    have hp6 := hp5.below hb6
    have hB6 := hB5.trans (hb6.mono hB5.size)
    clear hb5 hi5 hp5 hb6 hB2 HTA
    by_cases hz : (pT s.data.toList).2 = 0
    · obtain ⟨hpp, hwf⟩ := pT_back hz
      have hP2 := HP2.out (pT s.data.toList).1 vi5 vp5 _ hB6 hwf hi6 hp6
      rw [hpp] at hP2
      dsimp only at hP2
      rw [show bs s.data.toList = s from to_bs s] at hP2
      rw [hz] at *
      have HPQ := Lib.hid hP2
      clear hP2 hpp hwf hi6 hp6
      generalize (pT s.data.toList).1 = q at *
      go_wp2_with (first | (refine store_pk (.tmp 9) (.tmp 51) w5.heap.size K.zero q _ _ vi5 vp5 hs5 hn5 rfl rfl rfl rfl rfl ?_) | (refine load_pk (.tmp 9) w5.heap.size q vi5 vp5 hx6 rfl rfl rfl ?_))
      refine HPQ.out.mono ?_
      rintro e w7 ⟨rfl, hb7⟩
      have hB7 := hB6.trans (hb7.mono hB6.size)
      have hss : (s.toList == s.toList) = true := by simp
      clear hb7 hB6
      go_wp2_with fail
      refine (HA.out _ hB7).mono ?_
      rintro e w8 ⟨rfl, hb8⟩
      have hB8 := hB7.trans (hb8.mono hB7.size)
      clear hb8
      go_wp2
      go_ret
      exact ⟨rfl, hB8⟩
    · have hq := pT_err hz
      have hne : ((pT s.data.toList).2 != 0) = true := by rw [bne_iff_ne]; exact hz
      generalize (pT s.data.toList).1 = q at *
      generalize (pT s.data.toList).2 = E at *
      subst hq
      have HSZ := Lib.hid (fun W (h : Below ((zeroP w5).setRow w5.heap.size (pc K.zero vi5 vp5)).heap.size ((zeroP w5).setRow w5.heap.size (pc K.zero vi5 vp5)) W) => same_any K.zero K.zero vi5 vp5 (.slice none 0 0) (.slice none 0 0) W (hi6.below h) (hp6.below h) (ins_nil W) (prs_nil W))
      rw [decide_eq_true (show K.zero = K.zero from rfl)] at HSZ
      clear hz hi6 hp6
      go_wp2_with (first | (refine store_pk (.tmp 9) (.tmp 51) w5.heap.size K.zero K.zero _ _ vi5 vp5 hs5 hn5 rfl rfl rfl rfl rfl ?_) | (refine load_pk (.tmp 9) w5.heap.size K.zero vi5 vp5 hx6 rfl rfl rfl ?_))
      refine (HSZ.out _ (Below.refl _ _)).mono ?_
      rintro e w7 ⟨rfl, hb7⟩
      have hB7 := hB6.trans (hb7.mono hB6.size)
      clear hb7 hB6
      go_wp2_with fail
      refine (HA.out _ hB7).mono ?_
      rintro e w8 ⟨rfl, hb8⟩
      have hB8 := hB7.trans (hb8.mono hB7.size)
      clear hb8
      go_wp2
      go_ret
      exact ⟨rfl, hB8⟩
/-- P21.2: the law PacketBack. -/
theorem back_law (k : K) (b b' : Option Addr) (n n' c c' : Nat) (s : ByteArray) (w : World) (hk : k.wf) (hs : s.size ≤ maxLen) (hT : Tab w) (hi : n ≤ 200 → Ins w (.slice b n c) k.ins) (hp : n' ≤ 200 → Prs w (.slice b' n' c') k.prs) :
    Calls Tryd.prog 6 #[.agg (pc k (.slice b n c) (.slice b' n' c')), .string s] w fun r w' => r = .returned (.bool true) ∧ Below w.heap.size w w' := by
  by_cases h : (n ≤ 200 ∧ n' ≤ 200) ∧ s.size ≤ 6000
  · have h1 := hi h.1.1
    have h2 := hp h.1.2
    obtain ⟨_, _, e1, _⟩ := id h1
    obtain ⟨_, _, e2, _⟩ := id h2
    cases e1
    cases e2
    exact back_few k _ _ s w hk h1 h2 hT h.1 h.2
  · exact back_many k b b' n n' c c' s w hT (by omega) hs
end Go.Proofs.YtdgbililgkhjfaaDoor.Pk
