/- P4.2, P4.5: the law FrameTurned: it answers true, whatever it is given. Condition: the world holds the table. -/
import Derived.Test.YtgmnojignnjejaaDoorFrameD
import Derived.Test.YtgmnojignnjejaaDoorFrameT0
import Derived.RegionTactic
namespace Go.Proofs.YtgmnojignnjejaaDoor.Frame
open Go.RowKit Go.Proofs.YtgmnojignnjejaaDoor.Crc Go.Proofs.YtgmnojignnjejaaDoor.Codec Go.Proofs.YtgmnojignnjejaaDoor.CrcWalk
set_option linter.unusedVariables false
/-- A row of bytes that may be written. -/
def Row (w : World) (g : Nat) (L : List UInt8) : Prop := ∀ j, j < L.length → w.cell? ⟨g, j, none⟩ = some (.int .u8 (L.getD j 0).toNat) ∧ w.frozen? ⟨g, j, none⟩ = false
theorem row_new (w : World) (s : ByteArray) : Row (Lib.bytesWorld w 5 s) w.heap.size s.data.toList := by
  intro j hj
  have hj' : j < s.size := by simpa using hj
  refine ⟨Lib.bytesWorld_cell w 5 s j hj', ?_⟩
  have hsz : s.size ≤ (Lib.bytesCells w 5 s).size := by simp [Lib.bytesCells]
  simp [World.frozen?, Lib.bytesWorld_at_new]
  omega
theorem row_set {w : World} {g : Nat} {L : List UInt8} (h : Row w g L) (i : Nat) (hi : i < L.length) (b : UInt8) : Row (w.setCell ⟨g, i, none⟩ (.int .u8 b.toNat)) g (L.set i b) := by
  intro j hj
  have hj' : j < L.length := by simpa using hj
  refine ⟨?_, by rw [World.frozen?_setCell]; exact (h j hj').2⟩
  by_cases e : j = i
  · subst e
    rw [World.cell?_setCell_same w _ _ (h j hj').1]
    simp [List.getD, hj']
  · rw [World.cell?_setCell_other w _ _ _ (by intro h; injection h with _ h; exact e h.symm), (h j hj').1]
    simp [List.getD, Ne.symm e]
theorem row_drew {w : World} {g : Nat} {L : List UInt8} (h : Row w g L) : Row w.drew g L := h
theorem pow_bit (at_ k p x : Nat) (hp : p < 2 ^ k) (v w : Nat) (hv : v = w ^^^ 2 ^ at_ * p) (i : Nat) (hi : i = (at_ + k) / 8) : v ^^^ 2 ^ (8 * i) * 2 ^ ((at_ + k) % 8) = w ^^^ 2 ^ at_ * (p + 2 ^ k) := by
  rw [hv, ← Nat.pow_add, hi, show 8 * ((at_ + k) / 8) + (at_ + k) % 8 = at_ + k by omega, Nat.xor_assoc]
  congr 1
  have h := xor_high k p 1 hp
  rw [Nat.mul_one] at h
  rw [← h, Nat.pow_add]
  have h2 := Nat.shiftLeft_xor_distrib (a := p) (b := 2 ^ k) (i := at_)
  simp only [Nat.shiftLeft_eq] at h2
  rw [Nat.mul_comm (2 ^ at_) (p ^^^ 2 ^ k), h2, Nat.mul_comm p, Nat.mul_comm (2 ^ k)]
theorem mod_bit (x k : Nat) : x % 2 ^ (k + 1) = x % 2 ^ k + 2 ^ k * (x / 2 ^ k % 2) := by
  rw [Nat.pow_succ, Nat.mod_mul]
theorem pow_mod (m : Nat) (hm : m < 8) : ((2 ^ m : Nat) : Int) = (2 : Int) ^ m % 256 := by
  have : ∀ j : Fin 8, ((2 ^ j.1 : Nat) : Int) = (2 : Int) ^ j.1 % 256 := by decide
  exact this ⟨m, hm⟩
theorem nums_toList (L : List UInt8) : (strOfNums (L.map fun b => ((b.toNat : Nat) : Int))).data.toList = L := by
  rw [strOfNums_data, List.map_map]
  conv => rhs; rw [← List.map_id L]
  refine List.map_congr_left fun b _ => ?_
  simp
theorem row_conv {w : World} {g : Nat} {L : List UInt8} (h : Row w g L) (n c : Nat) (hn : L.length = n) : (convert 34 9 (.slice (some ⟨g, 0, none⟩) n c)).run Tryd.prog w = .ok (.string (bs L)) w := by
  have hr := run_convert_bytes_arg w 34 5 Tryd.underlying34 Tryd.underlying5 g 0 n c (L.map fun b => ((b.toNat : Nat) : Int)) (by simpa using hn) (fun i hi => by
    rw [Nat.zero_add, (h i (by omega)).1]
    simp [List.getD, show i < L.length by omega]) 9 Tryd.underlying9
  rw [hr]
  have := eq_bs (nums_toList L)
  rw [this]
theorem grown_bytes (w : World) (s : ByteArray) : Below w.heap.size w (Lib.bytesWorld w 5 s) := by
  have hgr : w.grownBy (Lib.bytesWorld w 5 s) none := ⟨rfl, rfl, rfl, by rw [Lib.bytesWorld_size]; omega, fun k hk _ => Lib.bytesWorld_at_old w 5 s k hk⟩
  exact (Below.refl _ _).grown hgr (Nat.le_refl _) (fun k h => by cases h)
theorem bit_val (bts k : Nat) (hb : bts < 4294967296) : bits .and .u32 ((bts : Int) / 2 ^ k) 1 = ((bts / 2 ^ k % 2 : Nat) : Int) := by
  have := u32_and_nat (bts / 2 ^ k) 1 (Nat.lt_of_le_of_lt (Nat.div_le_self _ _) hb) (by omega)
  rw [show ((1 : Nat) : Int) = 1 from rfl] at this
  rw [Nat.and_two_pow_sub_one_eq_mod _ 1] at this
  rw [← this, Int.natCast_ediv, Int.natCast_pow]; rfl
set_option maxRecDepth 100000 in
set_option maxHeartbeats 1000000 in
theorem turned_law (s more : ByteArray) (a bts : Nat) (w : World) (ha : a < 65536) (hb : bts < 4294967296) (hs : s.size ≤ maxLen) (hm : more.size ≤ maxLen) (hT : Tab w) (h1 : s.size ≤ 600) (h2 : more.size ≤ 600) :
    Calls Tryd.prog 4 #[.string s, .agg #[.int .u16 a, .int .u32 bts], .string more] w fun r w' => r = .returned (.bool true) ∧ Below w.heap.size w w' := by
  have hlen : s.data.toList.length = s.size := by simp
  obtain ⟨t, ht⟩ : ∃ t, t = bs (fput s.data.toList) := ⟨_, rfl⟩
  have htl : t.data.toList = fput s.data.toList := by rw [ht, bs_toList]
  have hts : t.size = 6 + s.size := by rw [ht, bs_size, fput_length (by omega), hlen]
  have hput := fun W (h : Tab W) => lput_any s W hs h
  rw [← ht] at hput
  obtain ⟨q, hq⟩ : ∃ q : Nat, q = a % (8 * (t.size - 2)) := ⟨_, rfl⟩
  have hq1 : q < 8 * (t.size - 2) := by rw [hq]; exact Nat.mod_lt _ (by omega)
  have e1 : (a : Int) % (8 * ((t.size : Int) - 2)) = (q : Int) := by
    rw [hq, show 8 * ((t.size : Int) - 2) = ((8 * (t.size - 2) : Nat) : Int) by omega]; simp
  have tb0 : 6 ≤ t.size := by omega
  have tb1 : t.size ≤ 606 := by omega
  have hTS := Lib.hid hts
  have HTL := Lib.hid htl
  have HP := Lib.hid hput
  clear hq ht htl hts hput hlen
  go_enter Tryd.func4, Tryd.ntmps4
  go_wp2_with fail
  have hb0 : Below w.heap.size w (w.alloc (.cells #[.int .u16 a, .int .u32 bts] 32)) := (Below.refl _ _).alloc (Nat.le_refl _) _
  have hT0 := tab_below hT hb0
  refine (HP.out _ hT0).mono ?_
  rintro r w1 ⟨rfl, hb1⟩
  have hcA : w1.cell? ⟨w.heap.size, 0, none⟩ = some (.int .u16 a) := (hb1.cell (p := ⟨w.heap.size, 0, none⟩) (by simp)).trans (World.cell?_alloc_new _ _ _ _)
  have hcB : w1.cell? ⟨w.heap.size, 1, none⟩ = some (.int .u32 bts) := (hb1.cell (p := ⟨w.heap.size, 1, none⟩) (by simp)).trans (World.cell?_alloc_new _ _ _ _)
  have hcv := Lib.run_convert_string_bytes (P := Tryd.prog) w1 9 34 5 t Tryd.underlying9 Tryd.underlying34 Tryd.underlying5
  have hrow := row_new w1 t
  have hbel := grown_bytes w1 t
  have hsz1 : w.heap.size < w1.heap.size := by have := hb1.size; simp at this; omega
  obtain ⟨g, hg⟩ : ∃ g, g = w1.heap.size := ⟨_, rfl⟩
  obtain ⟨W1, hW1⟩ : ∃ W1, W1 = Lib.bytesWorld w1 5 t := ⟨_, rfl⟩
  obtain ⟨cp, hcp⟩ : ∃ c, c = grownCap w1 t.size 0 5 := ⟨_, rfl⟩
  rw [← hW1] at hrow hbel hcv
  rw [← hg] at hrow hbel hcv hsz1
  rw [← hcp] at hcv
  have hcA1 : W1.cell? ⟨w.heap.size, 0, none⟩ = some (.int .u16 a) := (hbel.cell (p := ⟨w.heap.size, 0, none⟩) hsz1).trans hcA
  have hfin1 : Below w.heap.size w w1 := hb0.trans (hb1.mono (by simp))
  have HG := Lib.hid hg
  clear hcp hW1 hg hcA hb0 hb1
  obtain ⟨lim, hlim⟩ : ∃ lim, q < 32 ∧ lim = 32 ∨ ¬ q < 32 ∧ lim = 8 * (t.size - 2) := by
    by_cases h : q < 32
    · exact ⟨32, .inl ⟨h, rfl⟩⟩
    · exact ⟨_, .inr ⟨h, rfl⟩⟩
  have hlim0 : q ≤ lim ∧ lim ≤ 8 * (t.size - 2) := by omega
  have hlimH := Lib.hid hlim
  rcases hlim with ⟨hq32, hl⟩ | ⟨hq32, hl⟩
  all_goals
    first
    | have hqb : decide ((q : Int) < 32) = true := decide_eq_true (by omega)
    | have hqb : decide ((q : Int) < 32) = false := decide_eq_false (by omega)
    clear hl
    go_wp2
    rw [e1]
    clear e1 hcv hcA1
    go_loopw [11, 12] (fun x i wr => ∃ k : Nat, ∃ L : List UInt8, ∃ B : Bool, k ≤ 32 ∧ q + k ≤ lim ∧ L.length = t.size ∧ i = .int .i64 k ∧ x = .bool B ∧ Row wr g L ∧ Below g w1 wr ∧ V L = V t.data.toList ^^^ 2 ^ (16 + q) * (bts % 2 ^ k) ∧ (B = true ↔ bts % 2 ^ k ≠ 0)) (fun _ i _ => 32 - (intOf i).toNat)
    case atStart => exact ⟨0, t.data.toList, false, by omega, by omega, by simp, rfl, rfl, hrow, hbel, by simp [Nat.mod_one], by simp [Nat.mod_one]⟩
    case round =>
      obtain ⟨k, L, B, hk, hqk, hL, rfl, rfl, hr, hb1, hV, hBz⟩ := hrel
      have hcB1 : wr.cell? ⟨w.heap.size, 1, none⟩ = some (.int .u32 bts) := (hb1.cell (p := ⟨w.heap.size, 1, none⟩) hsz1).trans hcB
      by_cases hc : k < 32 ∧ q + k < lim
      · obtain ⟨c1, c2⟩ := hc
        have c3 : q + k < 8 * (t.size - 2) := by omega
        have c4 : (q : Int) + (k : Int) < 32 ∨ ¬ q < 32 := by have := hlimH.out; omega
        have HV := Lib.hid hV
        have HR := Lib.hid hr
        have HZ := Lib.hid hBz
        clear hV hr hBz
        have hmb := mod_bit bts k
        have h2k : 2 ^ k < 2 ^ 32 := Nat.pow_lt_pow_right (by decide) c1
        obtain ⟨p, hpp⟩ : ∃ p, p = bts % 2 ^ k := ⟨_, rfl⟩
        have hplt : p < 2 ^ k := by rw [hpp]; exact Nat.mod_lt _ (Nat.pow_pos (by decide))
        rw [← hpp] at hmb HV HZ
        have eb := bit_val bts k hb
        obtain ⟨bit, hbit⟩ : ∃ b, b = bts / 2 ^ k % 2 := ⟨_, rfl⟩
        rw [← hbit] at hmb eb
        have hb2 : bit < 2 := by rw [hbit]; exact Nat.mod_lt _ (by decide)
        clear hbit hpp
        by_cases h1b : bit = 1
        · rw [h1b, Nat.mul_one] at hmb
          rw [h1b] at eb
          obtain ⟨i, hi⟩ : ∃ i, i = (16 + q + k) / 8 := ⟨_, rfl⟩
          obtain ⟨i0, hi0⟩ : ∃ i, i = (q + k) / 8 := ⟨_, rfl⟩
          obtain ⟨m, hm'⟩ : ∃ m, m = (q + k) % 8 := ⟨_, rfl⟩
          have hmm : m = (16 + q + k) % 8 := by omega
          have hiL : i < L.length := by omega
          have him : i < t.size := by omega
          have hm8 : m < 8 := by omega
          have e3 : ((q : Int) + (k : Int)) / 8 = (i0 : Int) := by omega
          have e3b : (2 : Int) + (i0 : Int) = (i : Int) := by omega
          have e4 : ((q : Int) + (k : Int)) % 8 = (m : Int) := by omega
          obtain ⟨cell, frz⟩ := HR.out i hiL
          have hmbH := Lib.hid hmb
          have hiH := Lib.hid hi
          have hmH := Lib.hid hmm
          clear hmb hi hi0 hm' hmm h1b
          have h2m : 2 ^ m < 256 := Nat.pow_lt_pow_right (n := 8) (by decide) hm8
          have hxl : L[i].toNat ^^^ 2 ^ m < 256 := Nat.xor_lt_two_pow (n := 8) (UInt8.toNat_lt _) h2m
          obtain ⟨nb, hnb⟩ : ∃ nb : UInt8, nb.toNat = L[i].toNat ^^^ 2 ^ m := ⟨UInt8.ofNat (L[i].toNat ^^^ 2 ^ m), by rw [UInt8.toNat_ofNat', Nat.mod_eq_of_lt (by omega)]⟩
          have ex : bits .xor .u8 ((L[i].toNat : Nat) : Int) ((2 : Int) ^ m % 256) = ((nb.toNat : Nat) : Int) := by
            have := u8_xor_nat L[i].toNat (2 ^ m) (UInt8.toNat_lt _) h2m
            rw [hnb, ← this, pow_mod m hm8]
          have hnbH := Lib.hid hnb
          clear hnb
          go_wp2
          go_region
          have hRow := row_set HR.out i hiL nb
          have hBel : Below g w1 (wr.setCell ⟨g, i, none⟩ (.int .u8 nb.toNat)) := hb1.setCell (Nat.le_refl _) _
          have HRow := Lib.hid hRow
          have HBel := Lib.hid hBel
          clear hRow hBel ex
          go_wp2
          go_roundw
          case rel =>
            have h0 : p + 2 ^ k ≠ 0 := by have := Nat.pow_pos (n := k) (show 0 < 2 by decide); omega
            refine ⟨k + 1, L.set i nb, true, by omega, by omega, by simpa using hL, by go_num, rfl, row_drew HRow.out, HBel.out.drew, ?_, by rw [hmbH.out]; exact ⟨fun _ => h0, fun _ => rfl⟩⟩
            rw [hmbH.out, V_set L i hiL (2 ^ m) nb hnbH.out, ← pow_bit (16 + q) k p bts hplt (V L) (V t.data.toList) HV.out i hiH.out, ← hmH.out]
          case measure => simp [intOf]; omega
        · have h0b : bit = 0 := by omega
          rw [h0b, Nat.mul_zero, Nat.add_zero] at hmb
          rw [h0b] at eb
          have hmbH := Lib.hid hmb
          clear hmb h0b h1b
          go_wp2
          go_roundw
          case rel => exact ⟨k + 1, L, B, by omega, by omega, hL, by go_num, rfl, HR.out, hb1, by rw [hmbH.out]; exact HV.out, by rw [hmbH.out]; exact HZ.out⟩
          case measure => simp [intOf]; omega
      · have hfin : Below w.heap.size w wr := hfin1.trans (hb1.mono (by omega))
        have hTw : Tab wr := tab_below hT hfin
        have hp32 := Nat.lt_of_lt_of_le (Nat.mod_lt bts (Nat.pow_pos (n := k) (show 0 < 2 by decide))) (Nat.pow_le_pow_right (by decide) hk)
        have hpk := Nat.mod_lt bts (Nat.pow_pos (n := k) (show 0 < 2 by decide))
        have hcv := row_conv hr t.size cp hL
        have hbsz : (bs L).size ≤ 606 := by rw [bs_size, hL]; exact tb1
        cases B with
        | false =>
          clear hV hr hcv hL hpk hp32 hBz
          by_cases c1 : k < 32
          · have c2 : ¬ q + k < lim := fun h => hc ⟨c1, h⟩
            have hlo := hlimH.out
            have c3 : q < 32 ∧ ¬ (q : Int) + (k : Int) < 32 ∨ ¬ q < 32 ∧ ¬ (q : Int) + (k : Int) < 8 * ((t.size : Int) - 2) := by omega
            clear hc hlo
            rcases c3 with ⟨c3, c4⟩ | ⟨c3, c4⟩
            all_goals first | exact absurd hq32 (by omega) | skip
            all_goals
              have hqk2 : (q : Int) + (k : Int) ≤ 4832 := by omega
              first
              | have q1 : decide ((q : Int) + (k : Int) < 32) = false := decide_eq_false c4
              | have q1 : decide ((q : Int) + (k : Int) < 8 * ((t.size : Int) - 2)) = false := decide_eq_false c4
              clear c4 c2 c3 hlim0 hqk
              go_wp2_with fail
              refine (works_any wr hTw).mono ?_
              rintro r w4 ⟨rfl, hb4⟩
              have hfin4 := hfin.trans (hb4.mono hfin.size)
              go_wp2
              go_ret
              exact ⟨rfl, hfin4⟩
          · clear hc
            go_wp2_with fail
            refine (works_any wr hTw).mono ?_
            rintro r w4 ⟨rfl, hb4⟩
            have hfin4 := hfin.trans (hb4.mono hfin.size)
            go_wp2
            go_ret
            exact ⟨rfl, hfin4⟩
        | true =>
          have hz : bts % 2 ^ k ≠ 0 := hBz.1 rfl
          have hE : fnE (bs L ++ more).data.toList = 9 := by
            rw [to_bs_append]
            have hts := hTS.out
            have hlo := hlimH.out
            have hsl : s.data.toList.length = s.size := by simp
            refine turned_E s.data.toList L more.data.toList (by omega) (by omega) q (bts % 2 ^ k) hz hp32 (by rw [← HTL.out]; exact hV) ?_
            by_cases h32 : q < 32
            · left
              have h1 : 2 ^ q * (bts % 2 ^ k) < 2 ^ q * 2 ^ k := Nat.mul_lt_mul_of_pos_left hpk (Nat.pow_pos (by decide))
              have h2 : 2 ^ q * 2 ^ k ≤ 2 ^ 32 := by rw [← Nat.pow_add]; exact Nat.pow_le_pow_right (by decide) (by omega)
              omega
            · right; omega
          have hfy := fails_yes (bs L ++ more) 9 wr (by unfold maxLen; simp; omega) hTw hE (by decide)
          have HFY := Lib.hid hfy
          clear hV hr hL hpk hp32 hE hfy hz hBz
          generalize bs L = bL at *
          by_cases c1 : k < 32
          · have c2 : ¬ q + k < lim := fun h => hc ⟨c1, h⟩
            have hlo := hlimH.out
            have c3 : q < 32 ∧ ¬ (q : Int) + (k : Int) < 32 ∨ ¬ q < 32 ∧ ¬ (q : Int) + (k : Int) < 8 * ((t.size : Int) - 2) := by omega
            clear hc hlo
            rcases c3 with ⟨c3, c4⟩ | ⟨c3, c4⟩
            all_goals first | exact absurd hq32 (by omega) | skip
            all_goals
              have hqk2 : (q : Int) + (k : Int) ≤ 4832 := by omega
              first
              | have q1 : decide ((q : Int) + (k : Int) < 32) = false := decide_eq_false c4
              | have q1 : decide ((q : Int) + (k : Int) < 8 * ((t.size : Int) - 2)) = false := decide_eq_false c4
              clear c4 c2 c3 hlim0 hqk
              go_wp2_with fail
              refine HFY.out.mono ?_
              rintro r w4 ⟨rfl, hb4⟩
              have hfin4 := hfin.trans (hb4.mono hfin.size)
              have hT4 := tab_below hTw hb4
              go_wp2_with fail
              refine (works_any w4 hT4).mono ?_
              rintro r w5 ⟨rfl, hb5⟩
              have hfin5 := hfin4.trans (hb5.mono hfin4.size)
              go_wp2
              go_ret
              exact ⟨rfl, hfin5⟩
          · clear hc
            go_wp2_with fail
            refine HFY.out.mono ?_
            rintro r w4 ⟨rfl, hb4⟩
            have hfin4 := hfin.trans (hb4.mono hfin.size)
            have hT4 := tab_below hTw hb4
            go_wp2_with fail
            refine (works_any w4 hT4).mono ?_
            rintro r w5 ⟨rfl, hb5⟩
            have hfin5 := hfin4.trans (hb5.mono hfin4.size)
            go_wp2
            go_ret
            exact ⟨rfl, hfin5⟩
set_option maxRecDepth 100000 in
theorem turned_none (s more : ByteArray) (a bts : Int) (w : World) (hs : s.size ≤ maxLen) (hm : more.size ≤ maxLen) (hT : Tab w) (h : 600 < s.size ∨ s.size ≤ 600 ∧ 600 < more.size) :
    Calls Tryd.prog 4 #[.string s, .agg #[.int .u16 a, .int .u32 bts], .string more] w fun r w' => r = .returned (.bool true) ∧ Below w.heap.size w w' := by
  have hs1 := hs
  have hm1 := hm
  unfold maxLen at hs1 hm1
  have hb0 : Below w.heap.size w (w.alloc (.cells #[.int .u16 a, .int .u32 bts] 32)) := (Below.refl _ _).alloc (Nat.le_refl _) _
  have hT0 := tab_below hT hb0
  rcases h with h | ⟨h, h'⟩
  all_goals
    go_enter Tryd.func4, Tryd.ntmps4
    go_wp2_with fail
    refine (works_any _ hT0).mono ?_
    rintro r w4 ⟨rfl, hb4⟩
    have hfin4 := hb0.trans (hb4.mono hb0.size)
    go_wp2
    go_ret
    exact ⟨rfl, hfin4⟩
end Go.Proofs.YtgmnojignnjejaaDoor.Frame
