/- What the document's 'legal', 'room', 'Long', 'small' and 'number' answer: walked. Conditions: sizes; the lists lie in memory. -/
import Derived.Test.YtdgbililgkhjfaaDoorPkR
import Derived.Deep.OwnRows
namespace Go.Proofs.YtdgbililgkhjfaaDoor.Pk
open Go.RowKit Go.Proofs.YtdgbililgkhjfaaDoor.Crc Go.Proofs.YtdgbililgkhjfaaDoor.Codec Go.Proofs.YtdgbililgkhjfaaDoor.Frame
set_option linter.unusedVariables false
/-- The row of eight bytes, k of them written. -/
def row8 (n k : Nat) : Array Value := ((leB n k).map bc ++ List.replicate (8 - k) (Value.int .u8 0)).toArray
theorem row8_size {n k : Nat} (h : k ≤ 8) : (row8 n k).size = 8 := by simp [row8, leB_length]; omega
theorem row8_at {n k : Nat} (h : k < 8) : (row8 n k)[k]? = some (.int .u8 0) := by
  have : (leB n k).length = k := leB_length k n
  simp only [row8, List.getElem?_toArray]
  rw [List.getElem?_append_right (by simp [this]), List.length_map, this, Nat.sub_self, List.getElem?_replicate, if_pos (by omega)]
theorem row8_set {n k : Nat} (h : k < 8) : (row8 n k).setIfInBounds k (.int .u8 (n / 256 ^ k % 256 : Nat)) = row8 n (k + 1) := by
  have hl : (leB n k).length = k := leB_length k n
  obtain ⟨j, hj⟩ : ∃ j, 8 - k = j + 1 := ⟨7 - k, by omega⟩
  have hb : (UInt8.ofNat (n / 256 ^ k % 256)).toNat = n / 256 ^ k % 256 := by rw [UInt8.toNat_ofNat']; omega
  apply Array.toList_inj.1
  simp only [row8, Array.toList_setIfInBounds, List.toList_toArray]
  rw [leB_snoc, hj, List.replicate_succ, List.set_append_right _ _ (by simp [hl]), show 8 - (k + 1) = j by omega]
  simp [hl, bc, hb]
theorem own8 {w : World} {g n : Nat} (hb : Blk w g (row8 n 8) 5) : w.ownsRow g 5 1 (.slice (some ⟨g, 0, none⟩) 8 8) 8 ((leB n 8).map bc) :=
  ⟨by simp [leB_length], .inr ⟨g, 8, row8 n 8, rfl, Nat.le_refl _, hb, Nat.le_refl _, by unfold maxLen; decide, by rw [row8_size (Nat.le_refl _)], by simp only [row8, Nat.sub_self, List.replicate_zero, List.append_nil]; exact List.take_of_length_le (by simp [leB_length])⟩⟩
set_option maxRecDepth 100000 in
/-- What the document's 'Long' answers. -/
theorem long_any (n : Nat) (w : World) (hn : n < 18446744073709551616) :
    Calls Tryd.prog 103 #[.int .u64 n] w fun r w' => r = .returned (.string (bs (leB n 8))) ∧ Below w.heap.size w w' := by
  have hmk : ∀ W, (Instr.makeSlice 47 (.int .i64 8) (.int .i64 8)).run Tryd.prog W = .ok (.slice (some ⟨W.heap.size, 0, none⟩) 8 8) (W.alloc (.cells (row8 n 0) 5)) := fun W => by
    have e : row8 n 0 = madeCells #[.int .u8 0] 8 := by apply Array.toList_inj.1; rw [toList_madeCells_one]; simp [row8, leB]
    rw [e]
    exact run_make_row' (P := Tryd.prog) 47 5 (.int .u8 0) 1 Tryd.underlying47 info5 rfl .i64 .i64 8 (by decide) (by decide) W
  go_enter Tryd.func103, Tryd.ntmps103
  go_wp2
  go_loopw [0, 4] (fun x i wr => ∃ k : Nat, k ≤ 8 ∧ i = .int .i64 k ∧ x = .int .u64 (n / 256 ^ k : Nat) ∧ Blk wr w.heap.size (row8 n k) 5 ∧ Below w.heap.size w wr) (fun _ i _ => 8 - (intOf i).toNat)
  case atStart => exact ⟨0, Nat.zero_le _, rfl, by simp, heap_alloc_new w _, (Below.refl _ w).alloc (Nat.le_refl _) _⟩
  case round =>
    obtain ⟨k, hk, rfl, rfl, hb, hbel⟩ := hrel
    by_cases hlt : k < 8
    · obtain ⟨m, hm⟩ : ∃ m, m = n / 256 ^ k := ⟨_, rfl⟩
      have hm2 : m / 256 = n / 256 ^ (k + 1) := by rw [hm, Nat.div_div_eq_div_mul, Nat.pow_succ]
      have hml : m < 18446744073709551616 := by rw [hm]; exact Nat.lt_of_le_of_lt (Nat.div_le_self _ _) hn
      have hset := row8_set (n := n) hlt
      rw [← hm] at hset ⊢
      have c0 : wr.cell? ⟨w.heap.size, k, none⟩ = some (.int .u8 0) := hb.cell _ (row8_at hlt)
      have f0 : wr.frozen? ⟨w.heap.size, k, none⟩ = false := hb.free
      have hb' := hb.set (off := k) (.int .u8 (m % 256 : Nat))
      rw [hset] at hb'
      have hbel' := hbel.setCell (p := ⟨w.heap.size, k, none⟩) (Nat.le_refl _) (.int .u8 (m % 256 : Nat))
      have HM := Lib.hid hm2
      have HB := Lib.hid hb'
      have HL := Lib.hid hbel'
      clear hset hm hm2 hb hbel hb' hbel'
      go_wp2
      go_roundw
      case rel => exact ⟨k + 1, by omega, by go_num, by rw [← HM.out]; simp, HB.out, HL.out⟩
      case measure => simp [intOf]; omega
    · obtain rfl : k = 8 := by omega
      have hcv := own_conv (own8 hb)
      have HL := Lib.hid hbel
      clear hb hbel
      go_wp2
      go_ret
      exact ⟨rfl, HL.out⟩
/-- The byte at a place; 0, if it is not there. -/
def sm (l : List UInt8) (k : Nat) : UInt8 := l.getD k 0
set_option maxRecDepth 100000 in
theorem small_any (s : ByteArray) (a : Nat) (w : World) (hs : s.size ≤ maxLen) (ha : a ≤ 1000000) :
    Calls Tryd.prog 71 #[.string s, .int .i64 a] w fun r w' => r = .returned (.int .u8 (sm s.data.toList a).toNat) ∧ w = w' := by
  unfold maxLen at hs
  have hl : s.data.toList.length = s.size := by simp
  by_cases h : a < s.size
  · have e : decide ((a : Int) ≥ (s.size : Int)) = false := decide_eq_false (by omega)
    have hx : sm s.data.toList a = s[a]'h := by unfold sm; rw [List.getD_eq_getElem?_getD, List.getElem?_eq_getElem (by omega)]; rfl
    rw [hx]
    clear hx hl
    go_enter Tryd.func71, Tryd.ntmps71
    go_wp2
    go_ret
    exact ⟨rfl, rfl⟩
  · have e : decide ((a : Int) ≥ (s.size : Int)) = true := decide_eq_true (by omega)
    have hx : sm s.data.toList a = 0 := by unfold sm; rw [List.getD_eq_getElem?_getD, List.getElem?_eq_none (by omega)]; rfl
    rw [hx]
    clear hx hl
    go_enter Tryd.func71, Tryd.ntmps71
    go_wp2
    go_ret
    exact ⟨rfl, rfl⟩
/-- A number of eight bytes of l from a place on: what is read when the last i bytes are still to come; bytes that are not there count as 0. -/
def numAt (l : List UInt8) (at_ i : Nat) : Nat := V ((l.drop (at_ + i)).take (8 - i))
theorem numAt_step {l : List UInt8} {a i : Nat} (hi : i < 8) : numAt l a i = numAt l a (i + 1) * 256 + (sm l (a + i)).toNat := by
  unfold numAt sm
  by_cases h : a + i < l.length
  · rw [List.drop_eq_getElem_cons h, show 8 - i = (8 - (i + 1)) + 1 by omega, List.take_succ_cons, V, Nat.add_comm, Nat.mul_comm, Nat.add_assoc, List.getD_eq_getElem?_getD, List.getElem?_eq_getElem h]
    rfl
  · rw [List.drop_of_length_le (by omega), List.drop_of_length_le (by omega), List.getD_eq_getElem?_getD, List.getElem?_eq_none (by omega)]
    simp [V]
theorem numAt_lt (l : List UInt8) (a i : Nat) : numAt l a i < 256 ^ (8 - i) := V_cut l (a + i) (8 - i)
set_option maxRecDepth 100000 in
/-- What the document's 'number' answers. -/
theorem number_any (s : ByteArray) (a : Nat) (w : World) (hs : s.size ≤ maxLen) (ha : a ≤ 1000) :
    Calls Tryd.prog 72 #[.string s, .int .i64 a] w fun r w' => r = .returned (.int .u64 (numAt s.data.toList a 0 : Nat)) ∧ w = w' := by
  have hsm := fun j (hj : j < 8) => small_any s (a + j) w hs (by omega)
  have HSM := Lib.hid hsm
  clear hs hsm
  go_enter Tryd.func72, Tryd.ntmps72
  go_wp2
  go_loop [5, 6] (fun x i => (∃ j : Nat, j < 8 ∧ i = .int .i64 j ∧ x = .int .u64 (numAt s.data.toList a (j + 1) : Nat)) ∨ (i = .int .i64 (-1) ∧ x = .int .u64 (numAt s.data.toList a 0 : Nat))) (fun _ i => (intOf i + 1).toNat)
  case atStart => exact .inl ⟨7, by decide, rfl, by simp [numAt, V]⟩
  case round =>
    rcases hrel with ⟨j, hj, rfl, rfl⟩ | ⟨rfl, rfl⟩
    · have hst := numAt_step (l := s.data.toList) (a := a) hj
      have hlt : numAt s.data.toList a (j + 1) < 72057594037927936 := Nat.lt_of_lt_of_le (numAt_lt _ _ _) (Nat.le_trans (Nat.pow_le_pow_right (by decide) (by omega : 8 - (j + 1) ≤ 7)) (by decide))
      have hcall := HSM.out j hj
      obtain ⟨x, hx⟩ : ∃ x, x = numAt s.data.toList a (j + 1) := ⟨_, rfl⟩
      rw [← hx] at hst hlt ⊢
      obtain ⟨u, hu⟩ : ∃ u, u = sm s.data.toList (a + j) := ⟨_, rfl⟩
      rw [← hu] at hst hcall
      have hub := UInt8.toNat_lt u
      obtain ⟨p, hp⟩ : ∃ p, p = a + j := ⟨_, rfl⟩
      have haj : ((a : Int) + (j : Int)) = (p : Int) := by omega
      rw [← hp] at hcall
      have hpl : p ≤ 2000 := by omega
      have HC := Lib.hid hcall
      clear hp
      have HST := Lib.hid hst
      clear hst hx hu hcall
      go_wp2_with fail
      refine HC.out.mono ?_
      rintro r w' ⟨rfl, rfl⟩
      go_wp2
      go_round
      case rel =>
        by_cases h0 : j = 0
        · subst h0
          exact .inr ⟨by go_num, by rw [HST.out]; go_num⟩
        · exact .inl ⟨j - 1, by omega, by go_num, by rw [show j - 1 + 1 = j by omega, HST.out]; go_num⟩
      case measure => simp [intOf]
    · go_wp2
      go_ret
      exact ⟨rfl, rfl⟩
set_option maxRecDepth 100000 in
/-- What the document's 'room' answers. -/
theorem room_any (first n : Nat) (w : World) (hf : first < 18446744073709551616) (hn : n ≤ 1000000) :
    Calls Tryd.prog 100 #[.int .u64 first, .int .i64 n] w fun r w' => r = .returned (.bool (decide (first + n ≤ 18446744073709551615))) ∧ w = w' := by
  obtain ⟨m, hm⟩ : ∃ m, m = 18446744073709551615 - n := ⟨_, rfl⟩
  have e1 : IntKind.u64.wrap (n : Int) = (n : Int) := IntWalk.u64_in _ (by omega)
  have e2 : IntKind.u64.wrap (18446744073709551615 - (n : Int)) = (m : Int) := by rw [IntWalk.u64_in _ (by omega)]; omega
  have e3 : decide (first ≤ m) = decide (first + n ≤ 18446744073709551615) := decide_eq_decide.2 (by omega)
  generalize decide (first + n ≤ 18446744073709551615) = B at *
  clear hm
  go_enter Tryd.func100, Tryd.ntmps100
  go_wp2
  go_ret
  exact ⟨rfl, rfl⟩
theorem bad1_eq (b : UInt8) : bad1 b = decide ((b.toNat : Int) > 63) := by
  unfold bad1
  rw [← decide_not]
  exact decide_eq_decide.2 (by omega)
set_option maxRecDepth 100000 in
set_option maxHeartbeats 1000000 in
/-- What the document's 'legal' answers. -/
theorem legal2_any (k : K) (vi vp : Value) (w : World) (hi : Ins w vi k.ins) (hp : Prs w vp k.prs) :
    Calls Tryd.prog 99 #[.agg (pc k vi vp)] w fun r w' => r = .returned (.bool (!(k.ins.any bad1) && !(k.prs.any bad2))) ∧ Below w.heap.size w w' := by
  obtain ⟨bi, ci, rfl, hli, hci⟩ := hi
  obtain ⟨bp, cp, rfl, hlp, hcp⟩ := hp
  obtain ⟨l, hl⟩ : ∃ l, l = k.ins := ⟨_, rfl⟩
  obtain ⟨m, hm⟩ : ∃ m, m = k.prs := ⟨_, rfl⟩
  rw [← hl] at hci hli ⊢
  rw [← hm] at hcp hlp ⊢
  have HI := Lib.hid hci
  have HP := Lib.hid hcp
  have hW : Blk (w.alloc (.cells (pc k (.slice bi l.length ci) (.slice bp m.length cp)) 34)) w.heap.size (pc k (.slice bi l.length ci) (.slice bp m.length cp)) 34 := heap_alloc_new w _
  have hB : Below w.heap.size w (w.alloc (.cells (pc k (.slice bi l.length ci) (.slice bp m.length cp)) 34)) := (Below.refl _ w).alloc (Nat.le_refl _) _
  have c7 : (w.alloc (.cells (pc k (.slice bi l.length ci) (.slice bp m.length cp)) 34)).cell? ⟨w.heap.size, 7, none⟩ = some (.slice bi l.length ci) := hW.cell _ rfl
  have c8 : (w.alloc (.cells (pc k (.slice bi l.length ci) (.slice bp m.length cp)) 34)).cell? ⟨w.heap.size, 8, none⟩ = some (.slice bp m.length cp) := hW.cell _ rfl
  have HB := Lib.hid hB
  obtain ⟨X, hX⟩ : ∃ X, X = (!(l.any bad1) && !(m.any bad2)) := ⟨_, rfl⟩
  rw [← hX]
  have HX := Lib.hid hX
  clear hX hl hm hci hcp hW hB
  go_enter Tryd.func99, Tryd.ntmps99
  go_wp2_with fail
  generalize w.alloc (.cells (pc k (.slice bi l.length ci) (.slice bp m.length cp)) 34) = w1 at *
  go_loop [3] (fun i => ∃ j : Nat, j ≤ l.length ∧ i = .int .i64 j ∧ (l.take j).any bad1 = false) (fun i => l.length - (intOf i).toNat)
  case atStart => exact ⟨0, Nat.zero_le _, rfl, rfl⟩
  case round =>
    obtain ⟨j, hj, rfl, hno⟩ := hrel
    by_cases hlt : j < l.length
    · obtain ⟨g, o, rfl, ha, hcell⟩ := HI.out j hlt
      have hsn : (l.take (j + 1)).any bad1 = ((l.take j).any bad1 || bad1 l[j]) := any_take bad1 l j hlt
      have hall := any_of_take bad1 l (j + 1)
      rw [hno, Bool.false_or] at hsn
      have hc1 : w1.cell? ⟨g, o + j, none⟩ = some (.int .u8 (l[j]).toNat) := (HB.out.cell (p := ⟨g, o + j, none⟩) ha).trans hcell
      have hbe := bad1_eq l[j]
      have hub := UInt8.toNat_lt l[j]
      generalize l[j] = x at *
      have HS := Lib.hid hsn
      have HA := Lib.hid hall
      clear hsn hall hno hcell
      cases hx : bad1 x with
      | true =>
        rw [hx] at hbe
        have hbe' := hbe.symm
        clear hbe
        go_wp2
        go_ret
        exact ⟨by rw [HX.out, HA.out (by rw [HS.out, hx])]; rfl, HB.out⟩
      | false =>
        rw [hx] at hbe
        have hbe' := hbe.symm
        clear hbe
        go_wp2
        go_round
        case rel => exact ⟨j + 1, by omega, by go_num, by rw [HS.out, hx]⟩
        case measure => simp [intOf]; omega
    · obtain rfl : j = l.length := by omega
      rw [List.take_length] at hno
      have HN := Lib.hid hno
      clear hno
      go_wp2
      go_loop [4] (fun i => ∃ j : Nat, j ≤ m.length ∧ i = .int .i64 j ∧ (m.take j).any bad2 = false) (fun i => m.length - (intOf i).toNat)
      case atStart => exact ⟨0, Nat.zero_le _, rfl, rfl⟩
      case round =>
        obtain ⟨j, hj, rfl, hno⟩ := hrel
        by_cases hlt : j < m.length
        · obtain ⟨g, o, rfl, ha, hcell, hcell'⟩ := HP.out j hlt
          have hsn : (m.take (j + 1)).any bad2 = ((m.take j).any bad2 || bad2 m[j]) := any_take bad2 m j hlt
          have hall := any_of_take bad2 m (j + 1)
          rw [hno, Bool.false_or] at hsn
          have hc1 : w1.cell? ⟨g, o + j * 2, none⟩ = some (.int .u8 (m[j]).1.toNat) := (HB.out.cell (p := ⟨g, o + j * 2, none⟩) ha).trans hcell
          have hc2 : w1.cell? ⟨g, o + j * 2 + 1, none⟩ = some (.int .u8 (m[j]).2.toNat) := (HB.out.cell (p := ⟨g, o + j * 2 + 1, none⟩) ha).trans hcell'
          have hb1 := bad1_eq (m[j]).1
          have hb2 := bad1_eq (m[j]).2
          have hu1 := UInt8.toNat_lt (m[j]).1
          have hu2 := UInt8.toNat_lt (m[j]).2
          have hb : bad2 m[j] = (bad1 (m[j]).1 || bad1 (m[j]).2) := rfl
          generalize m[j] = x at *
          have HS := Lib.hid hsn
          have HA := Lib.hid hall
          clear hsn hall hno hcell hcell'
          cases hx : bad1 x.1 with
          | true =>
            rw [hx] at hb1 hb
            have hb1' := hb1.symm
            have Hb := Lib.hid hb
            clear hb1 hb2 hb
            go_wp2
            go_ret
            exact ⟨by rw [HX.out, HA.out (by rw [HS.out, Hb.out]; rfl)]; simp, HB.out⟩
          | false =>
            rw [hx] at hb1 hb
            have hb1' := hb1.symm
            clear hb1
            cases hy : bad1 x.2 with
            | true =>
              rw [hy] at hb2 hb
              have hb2' := hb2.symm
              have Hb := Lib.hid hb
              clear hb2 hb
              go_wp2
              go_ret
              exact ⟨by rw [HX.out, HA.out (by rw [HS.out, Hb.out]; rfl)]; simp, HB.out⟩
            | false =>
              rw [hy] at hb2 hb
              have hb2' := hb2.symm
              have Hb := Lib.hid hb
              clear hb2 hb
              go_wp2
              go_round
              case rel => exact ⟨j + 1, by omega, by go_num, by rw [HS.out, Hb.out]; rfl⟩
              case measure => simp [intOf]; omega
        · obtain rfl : j = m.length := by omega
          rw [List.take_length] at hno
          have HN2 := Lib.hid hno
          clear hno
          go_wp2
          go_ret
          exact ⟨by rw [HX.out, HN.out, HN2.out]; rfl, HB.out⟩
end Go.Proofs.YtdgbililgkhjfaaDoor.Pk
