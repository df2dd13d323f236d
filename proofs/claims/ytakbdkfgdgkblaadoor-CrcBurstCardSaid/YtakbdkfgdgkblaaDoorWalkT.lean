/- The law CrcBurst of the layer crc: it answers true, whatever it is given. Condition: the world holds the table. -/
import Derived.Test.YtakbdkfgdgkblaaDoorWalkL
import Derived.Lib.ConvBytes
import Derived.BigRegion
import Derived.RegionTactic
namespace Go.Proofs.YtakbdkfgdgkblaaDoor.CrcWalk
open Go.RowKit Go.Proofs.YtakbdkfgdgkblaaDoor.Crc
set_option linter.unusedVariables false
/-- A row of bytes that may be written. -/
def Row (w : World) (g : Nat) (L : List UInt8) : Prop := ∀ j, j < L.length → w.cell? ⟨g, j, none⟩ = some (.int .u8 (L.getD j 0).toNat) ∧ w.frozen? ⟨g, j, none⟩ = false
theorem row_new (w : World) (s : ByteArray) : Row (Lib.bytesWorld w 5 s) w.heap.size s.data.toList := by
  intro j hj
  have hj' : j < s.size := by simpa using hj
  refine ⟨Lib.bytesWorld_cell w 5 s j hj', ?_⟩
  have hsz : s.size ≤ (Lib.bytesCells w 5 s).size := by simp [Lib.bytesCells]
  simp [World.frozen?, Lib.bytesWorld_at_new]
  omega
theorem row_set {w : World} {g : Nat} {L : List UInt8} (h : Row w g L) (i : Nat) (hi : i < L.length) (b : UInt8) : Row (w.setCell ⟨g, i, none⟩ (.int .u8 b.toNat)) g (L.set i b) := by
  intro j hj
  have hj' : j < L.length := by simpa using hj
  refine ⟨?_, by rw [World.frozen?_setCell]; exact (h j hj').2⟩
  by_cases e : j = i
  · subst e
    rw [World.cell?_setCell_same w _ _ (h j hj').1]
    simp [List.getD, hj']
  · rw [World.cell?_setCell_other w _ _ _ (by intro h; injection h with _ h; exact e h.symm), (h j hj').1]
    simp [List.getD, Ne.symm e]
theorem row_drew {w : World} {g : Nat} {L : List UInt8} (h : Row w g L) : Row w.drew g L := h
theorem pow_bit (at_ k p x : Nat) (hp : p < 2 ^ k) (v w : Nat) (hv : v = w ^^^ 2 ^ at_ * p) (i : Nat) (hi : i = (at_ + k) / 8) : v ^^^ 2 ^ (8 * i) * 2 ^ ((at_ + k) % 8) = w ^^^ 2 ^ at_ * (p + 2 ^ k) := by
  rw [hv, ← Nat.pow_add, hi, show 8 * ((at_ + k) / 8) + (at_ + k) % 8 = at_ + k by omega, Nat.xor_assoc]
  congr 1
  have h := xor_high k p 1 hp
  rw [Nat.mul_one] at h
  rw [← h, Nat.pow_add]
  have h2 := Nat.shiftLeft_xor_distrib (a := p) (b := 2 ^ k) (i := at_)
  simp only [Nat.shiftLeft_eq] at h2
  rw [Nat.mul_comm (2 ^ at_) (p ^^^ 2 ^ k), h2, Nat.mul_comm p, Nat.mul_comm (2 ^ k)]
theorem mod_bit (x k : Nat) : x % 2 ^ (k + 1) = x % 2 ^ k + 2 ^ k * (x / 2 ^ k % 2) := by
  rw [Nat.pow_succ, Nat.mod_mul]
theorem pow_mod (m : Nat) (hm : m < 8) : ((2 ^ m : Nat) : Int) = (2 : Int) ^ m % 256 := by
  have : ∀ j : Fin 8, ((2 ^ j.1 : Nat) : Int) = (2 : Int) ^ j.1 % 256 := by decide
  exact this ⟨m, hm⟩
theorem nums_toList (L : List UInt8) : (strOfNums (L.map fun b => ((b.toNat : Nat) : Int))).data.toList = L := by
  rw [strOfNums_data, List.map_map]
  conv => rhs; rw [← List.map_id L]
  refine List.map_congr_left fun b _ => ?_
  simp
theorem row_conv {w : World} {g : Nat} {L : List UInt8} (h : Row w g L) (n c : Nat) (hn : L.length = n) : (convert 30 9 (.slice (some ⟨g, 0, none⟩) n c)).run Tryd.prog w = .ok (.string (strOfNums (L.map fun b => ((b.toNat : Nat) : Int)))) w := by
  refine run_convert_bytes_arg _ 30 5 Tryd.underlying30 Tryd.underlying5 g 0 n c (L.map fun b => ((b.toNat : Nat) : Int)) (by simpa using hn) (fun i hi => ?_) 9 Tryd.underlying9
  rw [Nat.zero_add, (h i (by omega)).1]
  simp [List.getD, show i < L.length by omega]
set_option maxRecDepth 100000 in
theorem burst_law (s : ByteArray) (place bts : Nat) (w : World) (hp : place < 4294967296) (hb : bts < 4294967296) (hs : s.size ≤ maxLen) (hT : Tab w) (h1 : s.size ≤ 20000) (h0 : 0 < s.size) :
    Calls Tryd.prog 7 #[.string s, .int .u32 place, .int .u32 bts] w fun e w' => e = .returned (.bool true) ∧ Below w.heap.size w w' := by
  have hs1 := hs
  unfold maxLen at hs1
  have hcv := Lib.run_convert_string_bytes (P := Tryd.prog) w 9 30 5 s Tryd.underlying9 Tryd.underlying30 Tryd.underlying5
  have hrow := row_new w s
  have hgr : w.grownBy (Lib.bytesWorld w 5 s) none := ⟨rfl, rfl, rfl, by rw [Lib.bytesWorld_size]; omega, fun k hk _ => Lib.bytesWorld_at_old w 5 s k hk⟩
  have hbel : Below w.heap.size w (Lib.bytesWorld w 5 s) := (Below.refl _ _).grown hgr (Nat.le_refl _) (fun k h => by cases h)
  clear hgr
  obtain ⟨g, hg⟩ : ∃ g, g = w.heap.size := ⟨_, rfl⟩
  obtain ⟨W1, hW1⟩ : ∃ W1, W1 = Lib.bytesWorld w 5 s := ⟨_, rfl⟩
  obtain ⟨cp, hcp⟩ : ∃ c, c = grownCap w s.size 0 5 := ⟨_, rfl⟩
  rw [← hW1] at hrow hbel hcv
  rw [← hg] at hrow hbel hcv
  rw [← hcp] at hcv
  have HG := Lib.hid hg
  clear hcp hW1 hg
  have e0 : ((s.size : Int) == 0) = false := beq_eq_false_iff_ne.2 (by omega)
  obtain ⟨q, hq⟩ : ∃ q : Nat, q = place % (8 * s.size) := ⟨_, rfl⟩
  have hq1 : q < 8 * s.size := by rw [hq]; exact Nat.mod_lt _ (by omega)
  have e1 : (place : Int) % (8 * (s.size : Int)) = (q : Int) := by rw [hq]; simp
  clear hq
  go_enter Tryd.func7, Tryd.ntmps7
  go_wp2
  clear e1 hcv
  go_loopw [9, 10] (fun t i wr => ∃ k cnt : Nat, ∃ L : List UInt8, k ≤ 32 ∧ q + k ≤ 8 * s.size ∧ cnt ≤ k ∧ L.length = s.size ∧ i = .int .i64 k ∧ t = .int .i64 cnt ∧ Row wr g L ∧ Below g w wr ∧ V L = V s.data.toList ^^^ 2 ^ q * (bts % 2 ^ k) ∧ (cnt = 0 ↔ bts % 2 ^ k = 0)) (fun _ i _ => 32 - (intOf i).toNat)
  case atStart => exact ⟨0, 0, s.data.toList, by omega, by omega, by omega, by simp, rfl, rfl, hrow, hbel, by simp [Nat.mod_one], by simp [Nat.mod_one]⟩
  case round =>
    obtain ⟨k, cnt, L, hk, hqk, hcnt, hL, rfl, rfl, hr, hb1, hV, hz⟩ := hrel
    by_cases hc : k < 32 ∧ q + k < 8 * s.size
    · obtain ⟨c1, c2⟩ := hc
      have HV := Lib.hid hV
      have HZ := Lib.hid hz
      have HR := Lib.hid hr
      clear hV hz hr
      have hmb := mod_bit bts k
      have h2k : 2 ^ k < 2 ^ 32 := Nat.pow_lt_pow_right (by decide) c1
      obtain ⟨p, hpp⟩ : ∃ p, p = bts % 2 ^ k := ⟨_, rfl⟩
      have hplt : p < 2 ^ k := by rw [hpp]; exact Nat.mod_lt _ (Nat.pow_pos (by decide))
      rw [← hpp] at hmb HV HZ
      have eb : bits .and .u32 ((bts : Int) / 2 ^ k) 1 = ((bts / 2 ^ k % 2 : Nat) : Int) := by
        have := u32_and_nat (bts / 2 ^ k) 1 (Nat.lt_of_le_of_lt (Nat.div_le_self _ _) hb) (by omega)
        rw [show ((1 : Nat) : Int) = 1 from rfl] at this
        rw [Nat.and_two_pow_sub_one_eq_mod _ 1] at this
        rw [← this, Int.natCast_ediv, Int.natCast_pow]; rfl
      obtain ⟨bit, hbit⟩ : ∃ b, b = bts / 2 ^ k % 2 := ⟨_, rfl⟩
      rw [← hbit] at hmb eb
      have hb2 : bit < 2 := by rw [hbit]; exact Nat.mod_lt _ (by decide)
      clear hbit hpp
      by_cases h1b : bit = 1
      · rw [h1b, Nat.mul_one] at hmb
        rw [h1b] at eb
        obtain ⟨i, hi⟩ : ∃ i, i = (q + k) / 8 := ⟨_, rfl⟩
        obtain ⟨m, hm⟩ : ∃ m, m = (q + k) % 8 := ⟨_, rfl⟩
        have hiL : i < L.length := by omega
        have him : i < s.size := by omega
        have hm8 : m < 8 := by omega
        have e3 : ((q : Int) + (k : Int)) / 8 = (i : Int) := by omega
        have e4 : ((q : Int) + (k : Int)) % 8 = (m : Int) := by omega
        obtain ⟨cell, frz⟩ := HR.out i hiL
        have hmbH := Lib.hid hmb
        have hiH := Lib.hid hi
        have hmH := Lib.hid hm
        clear hmb hi hm h1b
        have h2m : 2 ^ m < 256 := Nat.pow_lt_pow_right (n := 8) (by decide) hm8
        have hxl : L[i].toNat ^^^ 2 ^ m < 256 := Nat.xor_lt_two_pow (n := 8) (UInt8.toNat_lt _) h2m
        obtain ⟨nb, hnb⟩ : ∃ nb : UInt8, nb.toNat = L[i].toNat ^^^ 2 ^ m := ⟨UInt8.ofNat (L[i].toNat ^^^ 2 ^ m), by rw [UInt8.toNat_ofNat', Nat.mod_eq_of_lt (by omega)]⟩
        have ex : bits .xor .u8 ((L[i].toNat : Nat) : Int) ((2 : Int) ^ m % 256) = ((nb.toNat : Nat) : Int) := by
          have := u8_xor_nat L[i].toNat (2 ^ m) (UInt8.toNat_lt _) h2m
          rw [hnb, ← this, pow_mod m hm8]
        have hnbH := Lib.hid hnb
        clear hnb
        go_wp2
        go_region
        have hRow := row_set HR.out i hiL nb
        have hBel : Below g w (wr.setCell ⟨g, i, none⟩ (.int .u8 nb.toNat)) := hb1.setCell (Nat.le_refl _) _
        have HRow := Lib.hid hRow
        have HBel := Lib.hid hBel
        clear hRow hBel ex
        go_wp2
        go_roundw
        case rel =>
          refine ⟨k + 1, cnt + 1, L.set i nb, by omega, by omega, by omega, by simpa using hL, by go_num, by go_num, row_drew HRow.out, HBel.out.drew, ?_, ?_⟩
          · rw [hmbH.out, V_set L i hiL (2 ^ m) nb hnbH.out, ← pow_bit q k p bts hplt (V L) (V s.data.toList) HV.out i hiH.out, ← hmH.out]
          · rw [hmbH.out]
            have := Nat.pow_pos (n := k) (show 0 < 2 by decide)
            omega
        case measure => simp [intOf]; omega
      · have h0b : bit = 0 := by omega
        rw [h0b, Nat.mul_zero, Nat.add_zero] at hmb
        rw [h0b] at eb
        have hmbH := Lib.hid hmb
        clear hmb h0b h1b
        go_wp2
        go_roundw
        case rel => exact ⟨k + 1, cnt, L, by omega, by omega, by omega, hL, by go_num, rfl, HR.out, hb1, by rw [hmbH.out]; exact HV.out, by rw [hmbH.out]; exact HZ.out⟩
        case measure => simp [intOf]; omega
    · have hcv := row_conv hr s.size cp hL
      have htl := nums_toList L
      obtain ⟨t, ht⟩ : ∃ t, t = strOfNums (L.map fun b => ((b.toNat : Nat) : Int)) := ⟨_, rfl⟩
      rw [← ht] at hcv htl
      have hts : t.size ≤ maxLen := by
        have : t.size = L.length := by rw [← htl]; simp
        unfold maxLen; omega
      have hT1 : Tab wr := tab_below hT (by rw [← HG.out]; exact hb1)
      have hlt := Nat.lt_of_lt_of_le (Nat.mod_lt bts (Nat.pow_pos (n := k) (show 0 < 2 by decide))) (Nat.pow_le_pow_right (by decide) hk)
      have hsl : s.data.toList.length = s.size := by simp
      have hturn := crc_turned s.data.toList L (by omega) q (bts % 2 ^ k) hlt (by omega) hV 0
      clear hsl
      obtain ⟨x, hx⟩ : ∃ x, x = crc 0 s.data.toList := ⟨_, rfl⟩
      obtain ⟨y, hy⟩ : ∃ y, y = crc 0 L := ⟨_, rfl⟩
      rw [← hx, ← hy] at hturn
      obtain ⟨B, hB⟩ : ∃ B : Bool, B = decide (cnt = 0) := ⟨_, rfl⟩
      have ey : ((y : Int) == (x : Int)) = B := by
        rw [hB, Bool.eq_iff_iff, beq_iff_eq, decide_eq_true_eq, hz, ← hturn]; omega
      have ec : ((cnt : Int) == 0) = B := by rw [hB, Bool.eq_iff_iff, beq_iff_eq, decide_eq_true_eq]; omega
      have k1 := sum_val t y wr hts hT1 (by rw [htl, hy])
      have k2 := sum_val s x wr hs hT1 (by rw [hx])
      have K1 := Lib.hid k1
      have K2 := Lib.hid k2
      have hfin : Below w.heap.size w wr := by rw [← HG.out]; exact hb1
      clear k1 k2 hB hx hy hturn htl ht hV hz hr hL
      by_cases c1 : k < 32
      · have c2 : ¬ q + k < 8 * s.size := fun h => hc ⟨c1, h⟩
        clear hc
        go_wp2_with fail
        refine K1.out.mono ?_; rintro e w' ⟨rfl, rfl⟩
        go_wp2_with fail
        refine K2.out.mono ?_; rintro e w' ⟨rfl, rfl⟩
        go_wp2_with fail
        refine (awake_any _ hT1).mono ?_; rintro e w' ⟨rfl, rfl⟩
        go_wp2
        go_ret
        exact ⟨rfl, hfin⟩
      · clear hc
        go_wp2_with fail
        refine K1.out.mono ?_; rintro e w' ⟨rfl, rfl⟩
        go_wp2_with fail
        refine K2.out.mono ?_; rintro e w' ⟨rfl, rfl⟩
        go_wp2_with fail
        refine (awake_any _ hT1).mono ?_; rintro e w' ⟨rfl, rfl⟩
        go_wp2
        go_ret
        exact ⟨rfl, hfin⟩
set_option maxRecDepth 100000 in
theorem burst_none (s : ByteArray) (place bts : Int) (w : World) (hs : s.size ≤ maxLen) (hT : Tab w) (h : 20000 < s.size ∨ s.size = 0) :
    Calls Tryd.prog 7 #[.string s, .int .u32 place, .int .u32 bts] w fun e w' => e = .returned (.bool true) ∧ w = w' := by
  have hs1 := hs
  unfold maxLen at hs1
  rcases h with h | h
  · go_enter Tryd.func7, Tryd.ntmps7
    go_wp2_with (go_at_call 9; refine (awake_any _ hT).mono ?_; rintro e w' ⟨rfl, rfl⟩)
    go_ret
    exact ⟨rfl, rfl⟩
  · have e0 : ((s.size : Int) == 0) = true := beq_iff_eq.2 (by omega)
    have e1 : ¬ 20000 < s.size := by omega
    clear h
    go_enter Tryd.func7, Tryd.ntmps7
    go_wp2_with (go_at_call 9; refine (awake_any _ hT).mono ?_; rintro e w' ⟨rfl, rfl⟩)
    go_ret
    exact ⟨rfl, rfl⟩
end Go.Proofs.YtakbdkfgdgkblaaDoor.CrcWalk
