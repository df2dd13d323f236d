/- P21.3: the law PacketSpoilt: walked. Conditions: the numbers are what their types bear, the lists lie in memory, the table. -/
import Derived.Test.YtdgbililgkhjfaaDoorPkS0
namespace Go.Proofs.YtdgbililgkhjfaaDoor.Pk
open Go.RowKit Go.Proofs.YtdgbililgkhjfaaDoor.Crc Go.Proofs.YtdgbililgkhjfaaDoor.Codec Go.Proofs.YtdgbililgkhjfaaDoor.CrcWalk Go.Proofs.YtdgbililgkhjfaaDoor.Frame
set_option linter.unusedVariables false
set_option maxRecDepth 100000 in
set_option maxHeartbeats 4000000 in
theorem may_big (k : K) (b b' : Option Addr) (n1 n2 c c' : Nat) (w : World) (hk : k.wf) (h1 : n1 ≤ 140737488355328) (h2 : n2 ≤ 140737488355328) (h : 32 < n1 + n2) :
    Calls Tryd.prog 55 #[.agg (pc k (.slice b n1 c) (.slice b' n2 c'))] w fun e w' => e = .returned (.bool false) ∧ Below w.heap.size w w' := by
  have e1 : decide ((n1 : Int) + (n2 : Int) > 32) = true := decide_eq_true (by omega)
  have h0 := hk.player
  have h1' := hk.epoch
  have h2' := hk.dest
  have h3 := hk.count
  have h4 := hk.own
  have h5 := hk.first
  obtain ⟨k0, k1⟩ := hk.kind
  clear hk
  obtain ⟨kind, player, epoch, dest, count, own, first, ins, prs, frame, sum⟩ := k
  dsimp only [pc] at *
  go_enter Tryd.func55, Tryd.ntmps55
  go_wp2_with fail
  all_goals
    go_ret
    exact ⟨rfl, ((Below.refl _ w).alloc (Nat.le_refl _) _).alloc (by simp) _⟩
set_option maxRecDepth 100000 in
set_option maxHeartbeats 4000000 in
theorem put_big (k : K) (b b' : Option Addr) (n1 n2 c c' : Nat) (w : World) (hk : k.wf) (h1 : n1 ≤ 140737488355328) (h2 : n2 ≤ 140737488355328) (h : 32 < n1 + n2) :
    Calls Tryd.prog 18 #[.agg (pc k (.slice b n1 c) (.slice b' n2 c'))] w fun e w' => e = .returned (.tuple #[.string (bs []), .int .i64 4]) ∧ Below w.heap.size w w' := by
  have HM := Lib.hid (fun W => may_big k b b' n1 n2 c c' W hk h1 h2 h)
  clear hk h1 h2 h
  go_enter Tryd.func18, Tryd.ntmps18
  go_wp2_with (first | (refine load_pk (.tmp 1) w.heap.size k _ _ (heap_alloc_new w _) rfl rfl rfl ?_))
  refine (HM.out _).mono ?_
  rintro e w1 ⟨rfl, hb⟩
  have hB : Below w.heap.size w w1 := ((Below.refl _ w).alloc (Nat.le_refl _) _).trans (hb.mono (by simp))
  clear hb
  go_wp2
  go_ret2
  exact ⟨rfl, hB⟩
set_option maxRecDepth 100000 in
theorem spoilt_no (k : K) (vi vp : Value) (x y : Nat) (w : World) (hx : x < 4294967296) (hy : y < 4294967296) (hT : Tab w) (hP : ∀ W, Below w.heap.size w W → Calls Tryd.prog 18 #[.agg (pc k vi vp)] W fun e w' => e = .returned (.tuple #[.string (bs []), .int .i64 4]) ∧ Below W.heap.size W w') :
    Calls Tryd.prog 7 #[.agg (pc k vi vp), .int .u32 x, .int .u32 y] w fun r w' => r = .returned (.bool true) ∧ Below w.heap.size w w' := by
  have HP := Lib.hid hP
  have HA := Lib.hid (fun W (h : Below w.heap.size w W) => awake_any W (tab_below hT h))
  clear hP hT
  go_enter Tryd.func7, Tryd.ntmps7
  go_wp2_with (first | (refine load_pk (.tmp 3) w.heap.size k _ _ (heap_alloc_new w _) rfl rfl rfl ?_))
  refine (HP.out _ ((Below.refl _ w).alloc (Nat.le_refl _) _)).mono ?_
  rintro e w1 ⟨rfl, hb⟩
  have hB : Below w.heap.size w w1 := ((Below.refl _ w).alloc (Nat.le_refl _) _).trans (hb.mono (by simp))
  clear hb
  go_wp2_with fail
  refine (HA.out _ hB).mono ?_
  rintro e w2 ⟨rfl, hb⟩
  have hB2 := hB.trans (hb.mono hB.size)
  clear hb
  go_wp2
  go_ret
  exact ⟨rfl, hB2⟩
set_option maxRecDepth 100000 in
set_option maxHeartbeats 8000000 in
theorem spoilt_yes (k : K) (vi vp : Value) (x y : Nat) (w : World) (hx : x < 4294967296) (hy : y < 4294967296) (hk : k.wf) (hi : Ins w vi k.ins) (hp : Prs w vp k.prs) (hT : Tab w) (hm : k.may) (ho : k.only = k) :
    Calls Tryd.prog 7 #[.agg (pc k vi vp), .int .u32 x, .int .u32 y] w fun r w' => r = .returned (.bool true) ∧ Below w.heap.size w w' := by
  obtain ⟨l1, l2⟩ := hm.lens
  have hpl := pay_length k l1 l2
  have htk := pT_pay hk hm
  rw [ho, if_pos hm] at htk
  have hput := fun W (h : Below w.heap.size w W) => put_any k vi vp W hk (hi.below h) (hp.below h) (tab_below hT h)
  rw [show pPut k = (fput k.pay, 0) from if_pos ⟨hm, ho⟩] at hput
  dsimp only at hput
  obtain ⟨M, hM⟩ : ∃ M, M = k.pay.length := ⟨_, rfl⟩
  have hM1 : 1 ≤ M := by rw [hM]; unfold K.pay; simp
  rw [← hM] at hpl
  obtain ⟨t, ht⟩ : ∃ t, t = bs (fput k.pay) := ⟨_, rfl⟩
  have htl : t.data.toList = fput k.pay := by rw [ht, bs_toList]
  have hts : t.size = 6 + M := by rw [ht, bs_size, fput_length (by omega), hM]
  rw [← ht] at hput
  obtain ⟨q, hq⟩ : ∃ q : Nat, q = x % (8 * M) := ⟨_, rfl⟩
  have hq1 : q < 8 * M := by rw [hq]; exact Nat.mod_lt _ (by omega)
  have es : (t.size : Int) - 6 = (M : Int) := by omega
  have e0 : IntKind.u32.wrap (8 * (M : Int)) = 8 * (M : Int) := IntWalk.u32_in _ (by omega)
  have e1 : (x : Int) % (8 * (M : Int)) = (q : Int) := by
    rw [hq, show 8 * (M : Int) = ((8 * M : Nat) : Int) by omega]; simp
  have tb0 : 7 ≤ t.size := by omega
  have tb1 : t.size ≤ 4102 := by omega
  have HTS := Lib.hid hts
  have HTL := Lib.hid htl
  have HMP := Lib.hid (And.intro hM htk)
  have HP := Lib.hid hput
  have HA := Lib.hid (fun W (h : Below w.heap.size w W) => awake_any W (tab_below hT h))
  have HTA := Lib.hid (fun l W (hl : l.length ≤ 5000) (h : Below w.heap.size w W) => take_any (bs l) W (by rw [bs_size]; unfold maxLen; omega) (tab_below hT h))
  have HSA1 := Lib.hid (fun W (h : Below w.heap.size w W) vi2 vp2 (h2 : Ins W vi2 k.ins) (h3 : Prs W vp2 k.prs) => same_any k k vi vp vi2 vp2 W (hi.below h) (hp.below h) h2 h3)
  rw [decide_eq_true (show k = k from rfl)] at HSA1
  clear hq ht htl hts hput hM htk hk hi hp hT hm ho l1 l2
  go_enter Tryd.func7, Tryd.ntmps7
  go_wp2_with (first | (refine load_pk (.tmp 3) w.heap.size k _ _ (heap_alloc_new w _) rfl rfl rfl ?_))
  refine (HP.out _ ((Below.refl _ w).alloc (Nat.le_refl _) _)).mono ?_
  rintro r w1 ⟨rfl, hb1⟩
  have hfin1 : Below w.heap.size w w1 := ((Below.refl _ w).alloc (Nat.le_refl _) _).trans (hb1.mono (by simp))
  have hp1 : Blk w1 w.heap.size (pc k vi vp) PT := (hb1.block _ (by simp)).trans (heap_alloc_new w _)
  have hcv := Lib.run_convert_string_bytes (P := Tryd.prog) w1 9 47 5 t Tryd.underlying9 Tryd.underlying47 Tryd.underlying5
  have hrow := row_new w1 t
  have hbel := grown_bytes w1 t
  have hsz1 : w.heap.size < w1.heap.size := hp1.lt
  obtain ⟨g, hg⟩ : ∃ g, g = w1.heap.size := ⟨_, rfl⟩
  obtain ⟨W1, hW1⟩ : ∃ W1, W1 = Lib.bytesWorld w1 5 t := ⟨_, rfl⟩
  obtain ⟨cp, hcp⟩ : ∃ c, c = grownCap w1 t.size 0 5 := ⟨_, rfl⟩
  rw [← hW1] at hrow hbel hcv
  rw [← hg] at hrow hbel hcv hsz1
  rw [← hcp] at hcv
  have HG := Lib.hid hg
  have HF1 := Lib.hid hfin1
  have HP1 := Lib.hid hp1
  clear hcp hW1 hg hb1 HP hfin1 hp1
  go_wp2
  go_loopw [12, 13] (fun x i wr => ∃ k' : Nat, ∃ L : List UInt8, ∃ B : Bool, k' ≤ 32 ∧ q + k' ≤ 8 * M ∧ L.length = t.size ∧ i = .int .i64 k' ∧ x = .bool B ∧ Row wr g L ∧ Below g w1 wr ∧ V L = V t.data.toList ^^^ 2 ^ (48 + q) * (y % 2 ^ k') ∧ (B = true ↔ y % 2 ^ k' ≠ 0)) (fun _ i _ => 32 - (intOf i).toNat)
  case atStart => exact ⟨0, t.data.toList, false, by omega, by omega, by simp, rfl, rfl, hrow, hbel, by simp [Nat.mod_one], by simp [Nat.mod_one]⟩
  case round =>
    obtain ⟨k', L, B, hk, hqk, hL, rfl, rfl, hr, hb1, hV, hBz⟩ := hrel
    clear hcv hrow hbel
    by_cases hc : k' < 32 ∧ q + k' < 8 * M
    · obtain ⟨c1, c2⟩ := hc
      have q0 : decide ((k' : Int) < 32) = true := decide_eq_true (by omega)
      have q1 : decide ((q : Int) + (k' : Int) < 8 * (M : Int)) = true := decide_eq_true (by omega)
      have HV := Lib.hid hV
      have HR := Lib.hid hr
      have HZ := Lib.hid hBz
      clear hV hr hBz
      have hmb := mod_bit y k'
      have h2k : 2 ^ k' < 2 ^ 32 := Nat.pow_lt_pow_right (by decide) c1
      obtain ⟨p, hpp⟩ : ∃ p, p = y % 2 ^ k' := ⟨_, rfl⟩
      have hplt : p < 2 ^ k' := by rw [hpp]; exact Nat.mod_lt _ (Nat.pow_pos (by decide))
      rw [← hpp] at hmb HV HZ
      have eb := bit_val y k' hy
      obtain ⟨bit, hbit⟩ : ∃ b, b = y / 2 ^ k' % 2 := ⟨_, rfl⟩
      rw [← hbit] at hmb eb
      have hb2 : bit < 2 := by rw [hbit]; exact Nat.mod_lt _ (by decide)
      clear hbit hpp
      by_cases h1b : bit = 1
      · rw [h1b, Nat.mul_one] at hmb
        rw [h1b] at eb
        obtain ⟨i, hi⟩ : ∃ i, i = (48 + q + k') / 8 := ⟨_, rfl⟩
        obtain ⟨i0, hi0⟩ : ∃ i, i = (q + k') / 8 := ⟨_, rfl⟩
        obtain ⟨m, hm'⟩ : ∃ m, m = (q + k') % 8 := ⟨_, rfl⟩
        have hmm : m = (48 + q + k') % 8 := by omega
        have hiL : i < L.length := by have := HTS.out; omega
        have him : i < t.size := by omega
        have hm8 : m < 8 := by omega
        have e3 : ((q : Int) + (k' : Int)) / 8 = (i0 : Int) := by omega
        have e3b : (6 : Int) + (i0 : Int) = (i : Int) := by omega
        have e4 : ((q : Int) + (k' : Int)) % 8 = (m : Int) := by omega
        obtain ⟨cell, frz⟩ := HR.out i hiL
        have hmbH := Lib.hid hmb
        have hiH := Lib.hid hi
        have hmH := Lib.hid hmm
        clear hmb hi hi0 hm' hmm h1b
        have h2m : 2 ^ m < 256 := Nat.pow_lt_pow_right (n := 8) (by decide) hm8
        have hxl : L[i].toNat ^^^ 2 ^ m < 256 := Nat.xor_lt_two_pow (n := 8) (UInt8.toNat_lt _) h2m
        obtain ⟨nb, hnb⟩ : ∃ nb : UInt8, nb.toNat = L[i].toNat ^^^ 2 ^ m := ⟨UInt8.ofNat (L[i].toNat ^^^ 2 ^ m), by rw [UInt8.toNat_ofNat', Nat.mod_eq_of_lt (by omega)]⟩
        have ex : bits .xor .u8 ((L[i].toNat : Nat) : Int) ((2 : Int) ^ m % 256) = ((nb.toNat : Nat) : Int) := by
          have := u8_xor_nat L[i].toNat (2 ^ m) (UInt8.toNat_lt _) h2m
          rw [hnb, ← this, pow_mod m hm8]
        have hnbH := Lib.hid hnb
        clear hnb
        go_wp2
        go_region
        have hRow := row_set HR.out i hiL nb
        have hBel : Below g w1 (wr.setCell ⟨g, i, none⟩ (.int .u8 nb.toNat)) := hb1.setCell (Nat.le_refl _) _
        have HRow := Lib.hid hRow
        have HBel := Lib.hid hBel
        clear hRow hBel ex
        go_wp2
        go_roundw
        case rel =>
          have h0 : p + 2 ^ k' ≠ 0 := by have := Nat.pow_pos (n := k') (show 0 < 2 by decide); omega
          refine ⟨k' + 1, L.set i nb, true, by omega, by omega, by simpa using hL, by go_num, rfl, row_drew HRow.out, HBel.out.drew, ?_, by rw [hmbH.out]; exact ⟨fun _ => h0, fun _ => rfl⟩⟩
          rw [hmbH.out, V_set L i hiL (2 ^ m) nb hnbH.out, ← pow_bit (48 + q) k' p y hplt (V L) (V t.data.toList) HV.out i hiH.out, ← hmH.out]
        case measure => simp [intOf]; omega
      · have h0b : bit = 0 := by omega
        rw [h0b, Nat.mul_zero, Nat.add_zero] at hmb
        rw [h0b] at eb
        have hmbH := Lib.hid hmb
        clear hmb h0b h1b
        go_wp2
        go_roundw
        case rel => exact ⟨k' + 1, L, B, by omega, by omega, hL, by go_num, rfl, HR.out, hb1, by rw [hmbH.out]; exact HV.out, by rw [hmbH.out]; exact HZ.out⟩
        case measure => simp [intOf]; omega
    · have hgw := HG.out
      have hfin : Below w.heap.size w wr := HF1.out.trans (hb1.mono (by omega))
      have hpr : Blk wr w.heap.size (pc k vi vp) PT := (hb1.block _ hsz1).trans HP1.out
      have hp32 := Nat.lt_of_lt_of_le (Nat.mod_lt y (Nat.pow_pos (n := k') (show 0 < 2 by decide))) (Nat.pow_le_pow_right (by decide) hk)
      have hcv := row_conv hr t.size cp hL
      have hta := HTA.out L wr (by omega) hfin
      rw [bs_toList] at hta
      cases B with
      | false =>
        have hz : y % 2 ^ k' = 0 := by
          rcases Nat.eq_zero_or_pos (y % 2 ^ k') with h | h
          · exact h
          · exact absurd (hBz.2 (by omega)) (by decide)
        have hLt : L = fput k.pay := by
          rw [← HTL.out]
          refine V_inj (by rw [hL]; simp) ?_
          rw [hV, hz, Nat.mul_zero, Nat.xor_zero]
        rw [hLt, HMP.out.2] at hta
        rw [← hLt] at hta
        have HTK := Lib.hid hta
        have HSA := Lib.hid (fun W (h : Below w.heap.size w W) vi2 vp2 (h2 : Ins W vi2 k.ins) (h3 : Prs W vp2 k.prs) => HSA1.out W h vi2 vp2 h2 h3)
        clear hV hr hL hp32 hta hz hBz hLt HTA hgw HSA1
        generalize bs L = bL at *
        by_cases c1 : k' < 32
        · have c2 : ¬ q + k' < 8 * M := fun h => hc ⟨c1, h⟩
          have q0 : decide ((k' : Int) < 32) = true := decide_eq_true (by omega)
          have q1 : decide ((q : Int) + (k' : Int) < 8 * (M : Int)) = false := decide_eq_false (by omega)
          have hqk2 : (q : Int) + (k' : Int) ≤ 100000 := by omega
          clear hc c1 c2 hqk
          go_wp2_with fail
          refine HTK.out.mono ?_
          rintro e w5 ⟨⟨vi5, vp5, rfl, hi5, hp5⟩, hb5⟩
          have hB5 : Below w.heap.size w w5 := hfin.trans (hb5.mono hfin.size)
          have hp5' : Blk w5 w.heap.size (pc k vi vp) PT := (hb5.block _ hpr.lt).trans hpr
          have hs5 := sl_of hi5 hp5
          have hn5 : Blk (zeroP w5) w5.heap.size (pc K.zero nilS nilS) PT := heap_alloc_new w5 _
          have hb6 : Below w5.heap.size w5 ((zeroP w5).setRow w5.heap.size (pc k vi5 vp5)) := below_setRow ((Below.refl _ w5).alloc (Nat.le_refl _) _) (Nat.le_refl _) _
          have hx6 : Blk ((zeroP w5).setRow w5.heap.size (pc k vi5 vp5)) w5.heap.size (pc k vi5 vp5) PT := setRow_heap _ _ _ _ _ _ hn5
          have hr6 : Blk ((zeroP w5).setRow w5.heap.size (pc k vi5 vp5)) w.heap.size (pc k vi vp) PT := (hb6.block _ hp5'.lt).trans hp5'
          have hi6 := hi5.below hb6
          have hp6 := hp5.below hb6
          have hB6 := hB5.trans (hb6.mono hB5.size)
          have HSM := Lib.hid (HSA.out _ hB6 vi5 vp5 hi6 hp6)
          have hB6s := hB6.size
          clear hb5 hi5 hp5 hb6 hi6 hp6 hp5' hB5 hfin hpr HTK HSA
          go_wp2_with (first | (refine store_pk (.tmp 14) (.tmp 85) w5.heap.size K.zero k _ _ vi5 vp5 hs5 hn5 rfl rfl rfl rfl rfl ?_) | (refine load_pkg (.tmp 14) w5.heap.size k vi5 vp5 hx6 rfl rfl rfl ?_) | (refine load_pkg (.tmp 3) w.heap.size k vi vp hr6 rfl rfl rfl ?_))
          refine HSM.out.mono ?_
          rintro e w7 ⟨rfl, hb7⟩
          have hB7 := hB6.trans (hb7.mono hB6s)
          clear hb7 hB6
          go_wp2_with fail
          refine (HA.out _ hB7).mono ?_
          rintro e w8 ⟨rfl, hb8⟩
          have hB8 := hB7.trans (hb8.mono hB7.size)
          clear hb8
          go_wp2
          go_ret
          exact ⟨rfl, hB8⟩
        · have q0 : decide ((k' : Int) < 32) = false := decide_eq_false (by omega)
          clear hc c1
          go_wp2_with fail
          refine HTK.out.mono ?_
          rintro e w5 ⟨⟨vi5, vp5, rfl, hi5, hp5⟩, hb5⟩
          have hB5 : Below w.heap.size w w5 := hfin.trans (hb5.mono hfin.size)
          have hp5' : Blk w5 w.heap.size (pc k vi vp) PT := (hb5.block _ hpr.lt).trans hpr
          have hs5 := sl_of hi5 hp5
          have hn5 : Blk (zeroP w5) w5.heap.size (pc K.zero nilS nilS) PT := heap_alloc_new w5 _
          have hb6 : Below w5.heap.size w5 ((zeroP w5).setRow w5.heap.size (pc k vi5 vp5)) := below_setRow ((Below.refl _ w5).alloc (Nat.le_refl _) _) (Nat.le_refl _) _
          have hx6 : Blk ((zeroP w5).setRow w5.heap.size (pc k vi5 vp5)) w5.heap.size (pc k vi5 vp5) PT := setRow_heap _ _ _ _ _ _ hn5
          have hr6 : Blk ((zeroP w5).setRow w5.heap.size (pc k vi5 vp5)) w.heap.size (pc k vi vp) PT := (hb6.block _ hp5'.lt).trans hp5'
          have hi6 := hi5.below hb6
          have hp6 := hp5.below hb6
          have hB6 := hB5.trans (hb6.mono hB5.size)
          have HSM := Lib.hid (HSA.out _ hB6 vi5 vp5 hi6 hp6)
          have hB6s := hB6.size
          clear hb5 hi5 hp5 hb6 hi6 hp6 hp5' hB5 hfin hpr HTK HSA
          go_wp2_with (first | (refine store_pk (.tmp 14) (.tmp 85) w5.heap.size K.zero k _ _ vi5 vp5 hs5 hn5 rfl rfl rfl rfl rfl ?_) | (refine load_pkg (.tmp 14) w5.heap.size k vi5 vp5 hx6 rfl rfl rfl ?_) | (refine load_pkg (.tmp 3) w.heap.size k vi vp hr6 rfl rfl rfl ?_))
          refine HSM.out.mono ?_
          rintro e w7 ⟨rfl, hb7⟩
          have hB7 := hB6.trans (hb7.mono hB6s)
          clear hb7 hB6
          go_wp2_with fail
          refine (HA.out _ hB7).mono ?_
          rintro e w8 ⟨rfl, hb8⟩
          have hB8 := hB7.trans (hb8.mono hB7.size)
          clear hb8
          go_wp2
          go_ret
          exact ⟨rfl, hB8⟩
      | true =>
        have hz : y % 2 ^ k' ≠ 0 := hBz.1 rfl
        have hE : fnE L = 9 := by
          have h1 := HTS.out
          have h2 := HMP.out.1
          have h3 := turned_E k.pay L [] (by omega) (by omega) (32 + q) (y % 2 ^ k') hz hp32 (by rw [← HTL.out, hV, show 16 + (32 + q) = 48 + q by omega]) (.inr (by omega))
          rwa [List.append_nil] at h3
        have hpt : pT L = (K.zero, 9) := by
          unfold pT
          rw [if_pos (by rw [hE]; decide), hE]
        rw [hpt] at hta
        have HTK := Lib.hid hta
        have HSA := Lib.hid (fun W (h : Below w.heap.size w W) vi2 vp2 (h2 : Ins W vi2 K.zero.ins) (h3 : Prs W vp2 K.zero.prs) => same_any K.zero K.zero vi2 vp2 (.slice none 0 0) (.slice none 0 0) W h2 h3 (ins_nil W) (prs_nil W))
        rw [decide_eq_true (show K.zero = K.zero from rfl)] at HSA
        clear hV hr hL hp32 hta hz hBz hE hpt HTA hgw HSA1
        generalize bs L = bL at *
        by_cases c1 : k' < 32
        · have c2 : ¬ q + k' < 8 * M := fun h => hc ⟨c1, h⟩
          have q0 : decide ((k' : Int) < 32) = true := decide_eq_true (by omega)
          have q1 : decide ((q : Int) + (k' : Int) < 8 * (M : Int)) = false := decide_eq_false (by omega)
          have hqk2 : (q : Int) + (k' : Int) ≤ 100000 := by omega
          clear hc c1 c2 hqk
          go_wp2_with fail
          refine HTK.out.mono ?_
          rintro e w5 ⟨⟨vi5, vp5, rfl, hi5, hp5⟩, hb5⟩
          have hB5 : Below w.heap.size w w5 := hfin.trans (hb5.mono hfin.size)
          have hp5' : Blk w5 w.heap.size (pc k vi vp) PT := (hb5.block _ hpr.lt).trans hpr
          have hs5 := sl_of hi5 hp5
          have hn5 : Blk (zeroP w5) w5.heap.size (pc K.zero nilS nilS) PT := heap_alloc_new w5 _
          have hb6 : Below w5.heap.size w5 ((zeroP w5).setRow w5.heap.size (pc K.zero vi5 vp5)) := below_setRow ((Below.refl _ w5).alloc (Nat.le_refl _) _) (Nat.le_refl _) _
          have hx6 : Blk ((zeroP w5).setRow w5.heap.size (pc K.zero vi5 vp5)) w5.heap.size (pc K.zero vi5 vp5) PT := setRow_heap _ _ _ _ _ _ hn5
          have hr6 : Blk ((zeroP w5).setRow w5.heap.size (pc K.zero vi5 vp5)) w.heap.size (pc k vi vp) PT := (hb6.block _ hp5'.lt).trans hp5'
          have hi6 := hi5.below hb6
          have hp6 := hp5.below hb6
          have hB6 := hB5.trans (hb6.mono hB5.size)
          have HSM := Lib.hid (HSA.out _ hB6 vi5 vp5 hi6 hp6)
          have hB6s := hB6.size
          clear hb5 hi5 hp5 hb6 hi6 hp6 hp5' hB5 hfin hpr HTK HSA
          go_wp2_with (first | (refine store_pk (.tmp 14) (.tmp 85) w5.heap.size K.zero K.zero _ _ vi5 vp5 hs5 hn5 rfl rfl rfl rfl rfl ?_) | (refine load_pkg (.tmp 14) w5.heap.size K.zero vi5 vp5 hx6 rfl rfl rfl ?_) | (refine load_pkg (.tmp 3) w.heap.size k vi vp hr6 rfl rfl rfl ?_))
          refine HSM.out.mono ?_
          rintro e w7 ⟨rfl, hb7⟩
          have hB7 := hB6.trans (hb7.mono hB6s)
          clear hb7 hB6
          go_wp2_with fail
          refine (HA.out _ hB7).mono ?_
          rintro e w8 ⟨rfl, hb8⟩
          have hB8 := hB7.trans (hb8.mono hB7.size)
          clear hb8
          go_wp2
          go_ret
          exact ⟨rfl, hB8⟩
        · have q0 : decide ((k' : Int) < 32) = false := decide_eq_false (by omega)
          clear hc c1
          go_wp2_with fail
          refine HTK.out.mono ?_
          rintro e w5 ⟨⟨vi5, vp5, rfl, hi5, hp5⟩, hb5⟩
          have hB5 : Below w.heap.size w w5 := hfin.trans (hb5.mono hfin.size)
          have hp5' : Blk w5 w.heap.size (pc k vi vp) PT := (hb5.block _ hpr.lt).trans hpr
          have hs5 := sl_of hi5 hp5
          have hn5 : Blk (zeroP w5) w5.heap.size (pc K.zero nilS nilS) PT := heap_alloc_new w5 _
          have hb6 : Below w5.heap.size w5 ((zeroP w5).setRow w5.heap.size (pc K.zero vi5 vp5)) := below_setRow ((Below.refl _ w5).alloc (Nat.le_refl _) _) (Nat.le_refl _) _
          have hx6 : Blk ((zeroP w5).setRow w5.heap.size (pc K.zero vi5 vp5)) w5.heap.size (pc K.zero vi5 vp5) PT := setRow_heap _ _ _ _ _ _ hn5
          have hr6 : Blk ((zeroP w5).setRow w5.heap.size (pc K.zero vi5 vp5)) w.heap.size (pc k vi vp) PT := (hb6.block _ hp5'.lt).trans hp5'
          have hi6 := hi5.below hb6
          have hp6 := hp5.below hb6
          have hB6 := hB5.trans (hb6.mono hB5.size)
          have HSM := Lib.hid (HSA.out _ hB6 vi5 vp5 hi6 hp6)
          have hB6s := hB6.size
          clear hb5 hi5 hp5 hb6 hi6 hp6 hp5' hB5 hfin hpr HTK HSA
          go_wp2_with (first | (refine store_pk (.tmp 14) (.tmp 85) w5.heap.size K.zero K.zero _ _ vi5 vp5 hs5 hn5 rfl rfl rfl rfl rfl ?_) | (refine load_pkg (.tmp 14) w5.heap.size K.zero vi5 vp5 hx6 rfl rfl rfl ?_) | (refine load_pkg (.tmp 3) w.heap.size k vi vp hr6 rfl rfl rfl ?_))
          refine HSM.out.mono ?_
          rintro e w7 ⟨rfl, hb7⟩
          have hB7 := hB6.trans (hb7.mono hB6s)
          clear hb7 hB6
          go_wp2_with fail
          refine (HA.out _ hB7).mono ?_
          rintro e w8 ⟨rfl, hb8⟩
          have hB8 := hB7.trans (hb8.mono hB7.size)
          clear hb8
          go_wp2
          go_ret
          exact ⟨rfl, hB8⟩
/-- P21.3: the law PacketSpoilt. -/
theorem spoilt_law (k : K) (b b' : Option Addr) (n n' c c' x y : Nat) (w : World) (hk : k.wf) (hx : x < 4294967296) (hy : y < 4294967296) (hT : Tab w) (h1 : n ≤ 140737488355328) (h2 : n' ≤ 140737488355328) (hi : n ≤ 200 → Ins w (.slice b n c) k.ins) (hp : n' ≤ 200 → Prs w (.slice b' n' c') k.prs) :
    Calls Tryd.prog 7 #[.agg (pc k (.slice b n c) (.slice b' n' c')), .int .u32 x, .int .u32 y] w fun r w' => r = .returned (.bool true) ∧ Below w.heap.size w w' := by
  by_cases h : n ≤ 200 ∧ n' ≤ 200
  · have i1 := hi h.1
    have i2 := hp h.2
    by_cases hg : k.may ∧ k.only = k
    · exact spoilt_yes k _ _ x y w hx hy hk i1 i2 hT hg.1 hg.2
    · refine spoilt_no k _ _ x y w hx hy hT fun W hb => ?_
      have := put_any k _ _ W hk (i1.below hb) (i2.below hb) (tab_below hT hb)
      rwa [show pPut k = ([], 4) from if_neg hg] at this
  · exact spoilt_no k _ _ x y w hx hy hT fun W hb => put_big k b b' n n' c c' W hk h1 h2 (by omega)
end Go.Proofs.YtdgbililgkhjfaaDoor.Pk
