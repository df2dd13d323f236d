/- The laws' 'awake' and LinkDue of the layer link: walked. Condition: the table. -/
import Derived.Test.YtdgbililgkhjfaaDoorLkD
namespace Go.Proofs.YtdgbililgkhjfaaDoor.Lk
open Go.RowKit Go.Proofs.YtdgbililgkhjfaaDoor.Crc Go.Proofs.YtdgbililgkhjfaaDoor.Codec Go.Proofs.YtdgbililgkhjfaaDoor.Pk Go.Proofs.YtdgbililgkhjfaaDoor.CrcWalk Go.Proofs.YtdgbililgkhjfaaDoor.Frame
set_option linter.unusedVariables false
set_option linter.unusedSimpArgs false
/-- A link of the call's own lies at g. -/
structure Lv (w : World) (g : Nat) (l : L) (W : World) : Prop where
  blk : Blk W g (lc l) LT
  bel : Below w.heap.size w W
  own : w.heap.size ≤ g
theorem Lv.call {w W W' : World} {g : Nat} {l : L} (h : Lv w g l W) (hb : Below W.heap.size W W') : Lv w g l W' :=
  ⟨(hb.block _ h.blk.lt).trans h.blk, h.bel.trans (hb.mono h.bel.size), h.own⟩
theorem Lv.upon {w W W' : World} {g : Nat} {l l' : L} (h : Lv w g l W) (hb : Blk W' g (lc l') LT) (hk : Kp W.heap.size g W W') : Lv w g l' W' :=
  ⟨hb, h.bel.trans (hk.below h.bel.size h.own), h.own⟩
def hl4 : K := ⟨1, 1, 4, 0, 3, 5, 0, [], [], 0, 0⟩
theorem hl4_wf : hl4.wf := by constructor <;> decide
theorem make_wf3 : (L.make 0 2 3).wf := L.make_wf (by decide) (by decide) (by decide) (by decide)
set_option maxRecDepth 100000 in
set_option maxHeartbeats 1000000 in
theorem awake_any (w : World) (hT : Tab w) : Calls Tryd.prog 28 #[] w fun r w' => r = .returned (.bool true) ∧ Below w.heap.size w w' := by
  have w0 := make_wf3
  have w1 : ((L.make 0 2 3).sent 5).wf := L.sent_wf w0 (by decide)
  obtain ⟨l1, hl1⟩ : ∃ l1, l1 = (L.make 0 2 3).sent 5 := ⟨_, rfl⟩
  obtain ⟨l2, hl2⟩ : ∃ l2, l2 = (l1.acc hl4).1 := ⟨_, rfl⟩
  have w2 : l2.wf := by rw [hl2, hl1]; exact L.acc_wf w1 hl4_wf
  have HN := Lib.hid (fun W => new_yes 0 2 3 W (by decide) (by decide))
  have HD0 := Lib.hid (fun g W (h : Lv w g (L.make 0 2 3) W) => due_any _ g 5 W h.blk w0 (by decide))
  rw [show (L.make 0 2 3).due 5 = true from rfl] at HD0
  have HS := Lib.hid (fun g W (h : Lv w g (L.make 0 2 3) W) => sent_any _ g 5 W h.blk w0 (by decide))
  rw [← hl1] at HS w1
  have HD7 := Lib.hid (fun g W (h : Lv w g l1 W) => due_any _ g 7 W h.blk w1 (by decide))
  rw [show l1.due 7 = false by rw [hl1]; rfl] at HD7
  have HD8 := Lib.hid (fun g W (h : Lv w g l1 W) => due_any _ g 8 W h.blk w1 (by decide))
  rw [show l1.due 8 = true by rw [hl1]; rfl] at HD8
  have HAC := Lib.hid (fun g W (h : Lv w g l1 W) => acc_any l1 hl4 nS nS g W h.blk w1 hl4_wf (ins_nil _) (prs_nil _) (tab_below hT h.bel))
  rw [← hl2, show (l1.acc hl4).2 = 0 by rw [hl1]; rfl] at HAC
  have HC := Lib.hid (fun g W (h : Lv w g l2 W) => count_any _ g W h.blk w2)
  rw [show l2.count = 3 by rw [hl2, hl1]; rfl] at HC
  have HD9 := Lib.hid (fun g W (h : Lv w g l2 W) => due_any _ g 7 W h.blk w2 (by decide))
  rw [show l2.due 7 = true by rw [hl2, hl1]; rfl] at HD9
  clear hT w0 w1 w2 hl1 hl2
  go_enter Tryd.func28, Tryd.ntmps28
  go_wp2_with fail
  refine (HN.out _).mono ?_
  rintro r w1 ⟨rfl, hb, hbel⟩
  have h1 : Lv w w.heap.size (L.make 0 2 3) w1 := ⟨hb, hbel, Nat.le_refl _⟩
  clear hb hbel
  go_wp2_with fail
  refine (HD0.out _ _ h1).mono ?_
  rintro r w2 ⟨rfl, hb⟩
  have h2 := h1.call hb
  clear h1 hb
  go_wp2_with fail
  refine (HS.out _ _ h2).mono ?_
  rintro r w3 ⟨rfl, hb, hk⟩
  have h3 := h2.upon hb hk
  clear h2 hb hk
  go_wp2_with fail
  refine (HD7.out _ _ h3).mono ?_
  rintro r w4 ⟨rfl, hb⟩
  have h4 := h3.call hb
  clear h3 hb
  go_wp2_with fail
  refine (HD8.out _ _ h4).mono ?_
  rintro r w5 ⟨rfl, hb⟩
  have h5 := h4.call hb
  clear h4 hb
  go_wp2_with fail
  refine (HAC.out _ _ h5).mono ?_
  rintro r w6 ⟨rfl, hb, hk⟩
  have h6 := h5.upon hb hk
  clear h5 hb hk
  go_wp2_with fail
  refine (HC.out _ _ h6).mono ?_
  rintro r w' ⟨rfl, rfl⟩
  go_wp2_with fail
  refine (HD9.out _ _ h6).mono ?_
  rintro r w7 ⟨rfl, hb⟩
  have h7 := (h6.call hb).bel
  clear h6 hb
  go_wp2
  go_ret
  exact ⟨rfl, h7⟩
/-- Asked each tick: what stands at tick i. -/
structure Tick (n s i waited : Nat) (l : L) : Prop where
  wf : l.wf
  every : l.every = n
  first : i = 0 → l.urged = true ∧ waited = 0
  later : 0 < i → l.urged = false ∧ l.spoke = true ∧ l.last + waited = s + i ∧ 1 ≤ waited ∧ waited ≤ n
theorem Tick.none {n s i waited : Nat} {l : L} (h : Tick n s i waited l) (hd : l.due (s + i) = false) : 0 < i ∧ waited < n := by
  by_cases h0 : i = 0
  · have := (h.first h0).1
    unfold L.due at hd
    rw [this] at hd
    cases hd
  · obtain ⟨a, b, c, d, e⟩ := h.later (by omega)
    refine ⟨by omega, ?_⟩
    unfold L.due at hd
    rw [a, b, Bool.false_or, Bool.not_true, Bool.false_or, decide_eq_true (by omega), Bool.true_and, decide_eq_false_iff_not, h.every] at hd
    omega
theorem Tick.some {n s i waited : Nat} {l : L} (h : Tick n s i waited l) (hd : l.due (s + i) = true) (hi : 0 < i) : waited = n := by
  obtain ⟨a, b, c, d, e⟩ := h.later hi
  unfold L.due at hd
  rw [a, b, Bool.false_or, Bool.not_true, Bool.false_or, decide_eq_true (by omega), Bool.true_and, decide_eq_true_iff, h.every] at hd
  omega
theorem Tick.skip {n s i waited : Nat} {l : L} (h : Tick n s i waited l) (hd : l.due (s + i) = false) : Tick n s (i + 1) (waited + 1) l := by
  obtain ⟨h1, h2⟩ := h.none hd
  obtain ⟨a, b, c, d, e⟩ := h.later h1
  exact ⟨h.wf, h.every, fun h0 => by omega, fun _ => ⟨a, b, by omega, by omega, by omega⟩⟩
theorem Tick.told {n s i waited : Nat} {l : L} (h : Tick n s i waited l) (hs : s + i < 18446744073709551616) : Tick n s (i + 1) 1 (l.sent (s + i)) := by
  refine ⟨L.sent_wf h.wf hs, h.every, fun h0 => by omega, fun _ => ⟨rfl, rfl, by show s + i + 1 = s + (i + 1); omega, Nat.le_refl _, ?_⟩⟩
  have := h.wf.every
  rw [h.every] at this
  exact this
set_option maxRecDepth 100000 in
set_option maxHeartbeats 2000000 in
/-- P23.6: the law LinkDue. -/
theorem due_law (now every : Nat) (w : World) (hn : now < 18446744073709551616) (he : every < 256) (hT : Tab w) :
    Calls Tryd.prog 8 #[.int .u64 now, .int .u8 every] w fun r w' => r = .returned (.bool true) ∧ Below w.heap.size w w' := by
  obtain ⟨m, hm⟩ : ∃ m, m = every % 16 := ⟨_, rfl⟩
  obtain ⟨n, hnn⟩ : ∃ n, n = 1 + m := ⟨_, rfl⟩
  obtain ⟨s, hs⟩ : ∃ s, s = min now 4611686018427387904 := ⟨_, rfl⟩
  have hs2 : s ≤ 4611686018427387904 := by omega
  have hn1 : 1 ≤ n ∧ n ≤ 16 := by omega
  have HA := Lib.hid (fun W (h : Below w.heap.size w W) => awake_any W (tab_below hT h))
  have HN := Lib.hid (fun W => new_yes 1 1 n W ⟨by decide, by decide, by omega, by omega⟩ (by decide))
  have HT0 := Lib.hid (show Tick n s 0 0 (L.make 1 1 n) from ⟨L.make_wf (by decide) (by decide) (by omega) (by omega), rfl, fun _ => ⟨rfl, rfl⟩, fun h => absurd h (Nat.lt_irrefl _)⟩)
  have HS := Lib.hid (show min (now : Int) 4611686018427387904 = (s : Int) by omega)
  have HSS := Lib.hid hs
  have HMM := Lib.hid (show n = 1 + every % 16 by omega)
  clear hT hm hs hnn
  go_enter Tryd.func8, Tryd.ntmps8
  go_upto_region 1 with fail
  go_cut [5] (fun v wx => v = .int .i64 n ∧ w = wx)
  case first =>
    go_wp2
    go_meet
    refine ⟨?_, rfl⟩
    congr 1
    have := HMM.out
    omega
  case rest =>
  obtain ⟨rfl, rfl⟩ := hcut
  go_wp2_with fail
  refine (HN.out _).mono ?_
  rintro r w1 ⟨rfl, hb, hbel⟩
  have h1 : Lv w w.heap.size (L.make 1 1 n) w1 := ⟨hb, hbel, Nat.le_refl _⟩
  clear hb hbel
  go_upto_region 5 with fail
  go_cut [0] (fun v wx => v = .int .u64 s ∧ w1 = wx)
  case first =>
    go_wp2
    all_goals
      go_meet
      refine ⟨?_, rfl⟩
      congr 1
      have := HSS.out
      omega
  case rest =>
  obtain ⟨rfl, rfl⟩ := hcut
  go_wp2_with fail
  go_loopw [0, 7, 8] (fun t a i wr => ∃ (j x : Nat) (l : L), j ≤ 100 ∧ i = .int .i64 j ∧ a = .int .i64 x ∧ t = .int .u64 (s + j : Nat) ∧ Tick n s j x l ∧ x ≤ 16 ∧ Lv w w.heap.size l wr) (fun _ _ i _ => 100 - (intOf i).toNat)
  case atStart => exact ⟨0, 0, _, Nat.zero_le _, rfl, rfl, by rw [Nat.add_zero], HT0.out, by decide, h1⟩
  case round =>
    obtain ⟨j, x, l, hj, rfl, rfl, rfl, ht, hx, hL⟩ := hrel
    by_cases hlt : j < 100
    · have hdu := due_any l w.heap.size (s + j) wr hL.blk ht.wf (by omega)
      have HDU := Lib.hid hdu
      have HTK := Lib.hid ht
      have HLV := Lib.hid hL
      have e4 : IntKind.u64.wrap (((s + j : Nat) : Int) + 1) = ((s + (j + 1) : Nat) : Int) := by rw [IntWalk.u64_in _ (by omega)]; omega
      obtain ⟨t, htt⟩ : ∃ t, t = s + j := ⟨_, rfl⟩
      obtain ⟨t1, htt1⟩ : ∃ t1, t1 = s + (j + 1) := ⟨_, rfl⟩
      rw [← htt] at e4 ⊢
      rw [← htt1] at e4
      rw [← htt] at HDU
      have HT1 := Lib.hid htt1
      have HTT := Lib.hid htt
      have htb : t < 18446744073709551616 := by omega
      clear hdu ht hL htt htt1
      cases hd : l.due t with
      | false =>
        rw [hd] at HDU
        have HNO := Lib.hid (show 0 < j ∧ x < n by have h := HTK.out.none (by rw [← HTT.out]; exact hd); exact h)
        have HTN := Lib.hid (HTK.out.skip (by rw [← HTT.out]; exact hd))
        clear hd
        go_wp2_with fail
        refine HDU.out.mono ?_
        rintro r w2 ⟨rfl, hb⟩
        have HL2 := Lib.hid (HLV.out.call hb)
        clear hb
        go_wp2
        go_roundw
        case rel => exact ⟨j + 1, x + 1, l, by omega, by go_num, by go_num, by rw [HT1.out], HTN.out, by have := HNO.out; omega, HL2.out⟩
        case measure => simp [intOf]; omega
      | true =>
        rw [hd] at HDU
        have HYE := Lib.hid (fun h0 : 0 < j => HTK.out.some (by rw [← HTT.out]; exact hd) h0)
        have HTN := Lib.hid (HTK.out.told (by rw [← HTT.out]; exact htb))
        rw [← HTT.out] at HTN
        have HSE := Lib.hid (fun W (h : Lv w w.heap.size l W) => sent_any l w.heap.size t W h.blk HTK.out.wf htb)
        clear hd
        go_wp2_with fail
        refine HDU.out.mono ?_
        rintro r w2 ⟨rfl, hb⟩
        have hL2 := HLV.out.call hb
        clear hb
        go_wp2_with fail
        refine (HSE.out _ hL2).mono ?_
        rintro r w3 ⟨rfl, hb, hk⟩
        have HL3 := Lib.hid (hL2.upon hb hk)
        clear hL2 hb hk
        by_cases h0 : 0 < j
        · have hxn := HYE.out h0
          have e5 : ((x : Int) != (n : Int)) = false := by rw [bne_eq_false_iff_eq]; omega
          have HXN := Lib.hid hxn
          clear hxn
          go_wp2
          go_roundw
          case rel => exact ⟨j + 1, 1, l.sent t, by omega, by go_num, by go_num, by rw [HT1.out], HTN.out, by decide, HL3.out⟩
          case measure => simp [intOf]; omega
        · go_wp2
          go_roundw
          case rel => exact ⟨j + 1, 1, l.sent t, by omega, by go_num, by go_num, by rw [HT1.out], HTN.out, by decide, HL3.out⟩
          case measure => simp [intOf]; omega
    · obtain rfl : j = 100 := by omega
      have hxn : x ≤ n := (ht.later (by decide)).2.2.2.2
      have HLV := Lib.hid hL.bel
      clear ht hL
      go_wp2_with fail
      refine (HA.out _ HLV.out).mono ?_
      rintro r w2 ⟨rfl, hb⟩
      have hB := HLV.out.trans (hb.mono HLV.out.size)
      clear hb
      go_wp2
      go_ret
      exact ⟨rfl, hB⟩
end Go.Proofs.YtdgbililgkhjfaaDoor.Lk
