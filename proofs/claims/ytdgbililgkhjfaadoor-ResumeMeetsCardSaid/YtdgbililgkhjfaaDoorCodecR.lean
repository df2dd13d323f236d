/- What the codec's methods do to a writer and to a reader: each walked. Conditions: the writer's or reader's block. -/
import Derived.Test.YtdgbililgkhjfaaDoorCodecP
namespace Go.Proofs.YtdgbililgkhjfaaDoor.Codec
open Go.RowKit Go.Proofs.YtdgbililgkhjfaaDoor.Crc
set_option linter.unusedVariables false
set_option maxRecDepth 100000 in
theorem own_conv {w : World} {B n : Nat} {v : Value} {L : List UInt8} (h : w.ownsRow B 5 1 v n (L.map bc)) : (convert 47 9 v).run Tryd.prog w = .ok (.string (bs L)) w := by
  have hlen : L.length = n := by have := h.1; simpa using this
  rcases h.2 with ⟨rfl, h0⟩ | ⟨g, cap, cur, rfl, hb, hg, hc⟩
  · have : L = [] := List.eq_nil_of_length_eq_zero (by omega)
    subst this
    exact run_convert_bytes_nil w 47 5 Tryd.underlying47 Tryd.underlying5 0 0 9 Tryd.underlying9
  · have hcells := h.cells (g := g) rfl
    have hr := run_convert_bytes_arg w 47 5 Tryd.underlying47 Tryd.underlying5 g 0 n cap (L.map fun b => ((b.toNat : Nat) : Int)) (by simpa using hlen) (fun i hi => by
      have hil : i < L.length := by omega
      have := hcells i (bc L[i]) (by simp [hil])
      have hadd : (⟨g, 0, none⟩ : Addr).add i = ⟨g, 0 + i, none⟩ := by unfold Addr.add; split <;> simp_all
      rw [hadd] at this
      rw [this]
      simp [bc, List.getD, hil]) 9 Tryd.underlying9
    rw [hr]
    congr 2
    unfold strOfNums bs
    rw [List.map_map]
    congr 2
    conv => rhs; rw [← List.map_id L]
    refine List.map_congr_left fun b _ => ?_
    simp
set_option maxRecDepth 100000 in
/-- What 'Bytes' answers. -/
theorem bytes_any (p B : Nat) (L : List UInt8) (w : World) (hw : Wr w p B L) :
    Calls Tryd.prog 59 #[.pointer (some ⟨p, 0, none⟩)] w fun e w' => e = .returned (.string (bs L)) ∧ w = w' := by
  obtain ⟨v, t, hc, hown, hpB, hB⟩ := hw
  have hcell := cell_of_one hc
  have hcv := own_conv hown
  clear hc hown
  go_enter Tryd.func59, Tryd.ntmps59
  go_wp2
  go_ret
  exact ⟨rfl, rfl⟩
theorem Rd.cells {w : World} {p : Nat} {s : ByteArray} {e : Int} (h : Rd w p s e) : w.cell? ⟨p, 0, none⟩ = some (.string s) ∧ w.cell? ⟨p, 1, none⟩ = some (.int .i64 e) ∧ w.frozen? ⟨p, 0, none⟩ = false ∧ w.frozen? ⟨p, 1, none⟩ = false := by
  obtain ⟨t, h⟩ := h
  refine ⟨by simp [World.cell?, h], by simp [World.cell?, h], by simp [World.frozen?, h], by simp [World.frozen?, h]⟩
theorem Rd.set0 {w : World} {p : Nat} {s s' : ByteArray} {e : Int} (h : Rd w p s e) : Rd (w.setCell ⟨p, 0, none⟩ (.string s')) p s' e := by
  obtain ⟨t, h⟩ := h
  obtain ⟨hl, he⟩ := Array.getElem?_eq_some_iff.1 h
  refine ⟨t, ?_⟩
  show (w.heap.modify p _)[p]? = _
  rw [Array.getElem?_modify, if_pos rfl, h]
  simp
theorem Rd.set1 {w : World} {p : Nat} {s : ByteArray} {e e' : Int} (h : Rd w p s e) : Rd (w.setCell ⟨p, 1, none⟩ (.int .i64 e')) p s e' := by
  obtain ⟨t, h⟩ := h
  refine ⟨t, ?_⟩
  show (w.heap.modify p _)[p]? = _
  rw [Array.getElem?_modify, if_pos rfl, h]
  simp
set_option maxRecDepth 100000 in
/-- What 'fail' does where no error is known. -/
theorem fail_any (p : Nat) (s : ByteArray) (e : Int) (w : World) (hr : Rd w p s 0) :
    Calls Tryd.prog 123 #[.pointer (some ⟨p, 0, none⟩), .int .i64 e] w fun r w' => r = .returned (.tuple #[]) ∧ Rd w' p (bs []) e ∧ Kp w.heap.size p w w' := by
  obtain ⟨c0, c1, f0, f1⟩ := hr.cells
  have hs := hr.set0 (s' := ⟨#[]⟩)
  have hs2 := hs.set1 (e' := e)
  go_enter Tryd.func123, Tryd.ntmps123
  go_wp2
  go_end0
  exact ⟨rfl, hs2, ((Kp.refl _ _ _).setCell ⟨p, 0, none⟩ rfl _).setCell ⟨p, 1, none⟩ rfl _⟩
/-- What is taken off: the piece; what is left; the error. -/
def tkS (k : Nat) (s : ByteArray) (e : Int) : ByteArray := if e = 0 then if k ≤ s.size then s.extract 0 k else bs [] else bs []
def tkR (k : Nat) (s : ByteArray) (e : Int) : ByteArray := if e = 0 then if k ≤ s.size then s.extract k s.size else bs [] else s
def tkE (k : Nat) (s : ByteArray) (e : Int) : Int := if e = 0 then if k ≤ s.size then 0 else 10 else e
def tkO (k : Nat) (s : ByteArray) (e : Int) : Bool := decide (e = 0 ∧ k ≤ s.size)
set_option maxRecDepth 100000 in
/-- What 'take' does. -/
theorem take_any (p k : Nat) (s : ByteArray) (e : Int) (w : World) (hk : k ≤ 8) (hs : s.size ≤ maxLen) (hr : Rd w p s e) :
    Calls Tryd.prog 122 #[.pointer (some ⟨p, 0, none⟩), .int .u64 k] w fun r w' => r = .returned (.tuple #[.string (tkS k s e), .bool (tkO k s e)]) ∧ Rd w' p (tkR k s e) (tkE k s e) ∧ Kp w.heap.size p w w' := by
  obtain ⟨c0, c1, f0, f1⟩ := hr.cells
  unfold maxLen at hs
  by_cases he : e = 0
  · subst he
    by_cases hks : k ≤ s.size
    · have h1 : tkS k s 0 = s.extract 0 k := by simp [tkS, hks]
      have h2 : tkR k s 0 = s.extract k s.size := by simp [tkR, hks]
      have h3 : tkE k s 0 = 0 := by simp [tkE, hks]
      have h4 : tkO k s 0 = true := by simp [tkO, hks]
      rw [h1, h2, h3, h4]
      clear h1 h2 h3 h4
      have hs0 := hr.set0 (s' := s.extract k s.size)
      have HS := Lib.hid hs0
      clear hs0 hr
      go_enter Tryd.func122, Tryd.ntmps122
      go_wp2
      go_ret2
      exact ⟨rfl, HS.out, (Kp.refl _ _ _).setCell ⟨p, 0, none⟩ rfl _⟩
    · have h1 : tkS k s 0 = bs [] := by simp [tkS, hks]
      have h2 : tkR k s 0 = bs [] := by simp [tkR, hks]
      have h3 : tkE k s 0 = 10 := by simp [tkE, hks]
      have h4 : tkO k s 0 = false := by simp [tkO, hks]
      rw [h1, h2, h3, h4]
      clear h1 h2 h3 h4
      go_enter Tryd.func122, Tryd.ntmps122
      go_wp2_with fail
      refine (fail_any p s 10 w hr).mono ?_
      rintro r w' ⟨rfl, hr', hk'⟩
      go_wp2
      go_ret2
      exact ⟨rfl, hr', hk'⟩
  · have h1 : tkS k s e = bs [] := by simp [tkS, he]
    have h2 : tkR k s e = s := by simp [tkR, he]
    have h3 : tkE k s e = e := by simp [tkE, he]
    have h4 : tkO k s e = false := by simp [tkO, he]
    have h5 : (e != 0) = true := by simp [he]
    rw [h1, h2, h3, h4]
    clear h1 h2 h3 h4
    go_enter Tryd.func122, Tryd.ntmps122
    go_wp2
    go_ret2
    exact ⟨rfl, hr, Kp.refl _ _ _⟩
theorem V_snoc (l : List UInt8) (b : UInt8) : V (l ++ [b]) = 256 ^ l.length * b.toNat + V l := by
  rw [V_append, xor_high _ _ _ (V_lt l), Nat.pow_mul, Nat.add_comm]
  simp [V]
theorem or_bit (l : List UInt8) (k : Nat) (h : k < l.length) : V (l.take k) ||| 256 ^ k * l[k].toNat = V (l.take (k + 1)) := by
  rw [List.take_succ_eq_append_getElem h, V_snoc, List.length_take, Nat.min_eq_left (by omega), Nat.or_comm]
  have hlt : V (l.take k) < 256 ^ k := by
    have := V_lt (l.take k)
    rw [List.length_take, Nat.min_eq_left (by omega), Nat.pow_mul] at this
    exact this
  have e : 256 ^ k = 2 ^ (8 * k) := by rw [Nat.pow_mul]
  rw [e] at hlt ⊢
  exact nat_join (8 * k) _ _ (Nat.mul_mod_right _ _) hlt
set_option maxRecDepth 100000 in
/-- What 'get' answers, and leaves. -/
theorem get_u8 (p k : Nat) (s : ByteArray) (e : Int) (w : World) (hk : k ≤ 1) (hs : s.size ≤ maxLen) (hr : Rd w p s e) :
    Calls Tryd.prog 120 #[.pointer (some ⟨p, 0, none⟩), .int .i64 k] w fun r w' => r = .returned (.int .u8 (V (tkS k s e).data.toList : Nat)) ∧ Rd w' p (tkR k s e) (tkE k s e) ∧ Kp w.heap.size p w w' := by
  obtain ⟨c0, c1, f0, f1⟩ := hr.cells
  have hsz : (tkS k s e).size ≤ k := by unfold tkS; (repeat' split) <;> (simp [bs_size]; try omega)
  have ht := take_any p k s e w (by omega) hs hr
  obtain ⟨q, hq⟩ : ∃ q, q = tkS k s e := ⟨_, rfl⟩
  rw [← hq] at ht hsz ⊢
  have HT := Lib.hid ht
  clear ht hq c0 c1 f0 f1
  go_enter Tryd.func120, Tryd.ntmps120
  go_wp2_with fail
  refine HT.out.mono ?_
  rintro r w' ⟨rfl, hr', hk'⟩
  have HR := Lib.hid hr'
  have HK := Lib.hid hk'
  clear hr' hk' HT hr
  go_wp2
  go_loop [4, 21] (fun x i => ∃ j : Nat, j ≤ q.size ∧ i = .int .i64 j ∧ x = .int .u8 (V (q.data.toList.take j) : Nat)) (fun _ i => q.size - (intOf i).toNat)
  case atStart => exact ⟨0, Nat.zero_le _, rfl, rfl⟩
  case round =>
    obtain ⟨j, hj, rfl, rfl⟩ := hrel
    by_cases hlt : j < q.size
    · have hq1 : j < q.data.toList.length := by simpa using hlt
      have hor := or_bit q.data.toList j hq1
      have hVlt : V (q.data.toList.take j) < 256 := by
        have := V_lt (q.data.toList.take j)
        refine Nat.lt_of_lt_of_le this (Nat.le_trans (Nat.pow_le_pow_right (by decide) (?_ : _ ≤ 8 * 1)) (by decide))
        rw [List.length_take]; omega
      obtain ⟨y, hy⟩ : ∃ y : Nat, y = q.data.toList[j].toNat := ⟨_, rfl⟩
      have hyl : y < 256 := by rw [hy]; exact UInt8.toNat_lt _
      rw [← hy] at hor
      have hpow : 256 ^ j * y < 256 := by
        have h1 : 256 ^ j * y < 256 ^ j * 256 := Nat.mul_lt_mul_of_pos_left hyl (Nat.pow_pos (by decide))
        have h2 : 256 ^ j * 256 ≤ 256 ^ 1 := by rw [← Nat.pow_succ]; exact Nat.pow_le_pow_right (by decide) (by omega)
        exact Nat.lt_of_lt_of_le h1 h2
      have hF : IntKind.u64.wrap (IntKind.u64.wrap ((q[j].toNat : Nat) : Int) * 2 ^ (8 * j)) = ((256 ^ j * y : Nat) : Int) := by
        have e0 : ((q[j].toNat : Nat) : Int) = (y : Int) := by rw [hy]; rfl
        have e1 : ((2 : Int) ^ (8 * j)) = ((256 ^ j : Nat) : Int) := by rw [Int.natCast_pow, Int.pow_mul]; rfl
        rw [e0, IntWalk.u64_in (y : Int) (by omega), e1, ← Int.natCast_mul, Nat.mul_comm y, IntWalk.u64_in _ (by omega)]
      have HF := Lib.hid hF
      have HO := Lib.hid hor
      clear hF hor hy
      go_wp2
      go_round
      case rel =>
        refine ⟨j + 1, by omega, by go_num, ?_⟩
        rw [HF.out, Int.emod_eq_of_lt (a := ((256 ^ j * y : Nat) : Int)) (by omega) (by omega), u8_or_nat _ _ hVlt hpow, HO.out]
      case measure => simp [intOf]; omega
    · obtain rfl : j = q.size := by omega
      have hall : q.data.toList.take q.size = q.data.toList := List.take_of_length_le (by simp)
      rw [hall]
      clear hall
      go_wp2
      go_ret
      exact ⟨rfl, HR.out, HK.out⟩
set_option maxRecDepth 100000 in
/-- What 'U8' of a reader answers, and leaves. -/
theorem read_u8 (p : Nat) (s : ByteArray) (e : Int) (w : World) (hs : s.size ≤ maxLen) (hr : Rd w p s e) :
    Calls Tryd.prog 106 #[.pointer (some ⟨p, 0, none⟩)] w fun r w' => r = .returned (.int .u8 (V (tkS 1 s e).data.toList : Nat)) ∧ Rd w' p (tkR 1 s e) (tkE 1 s e) ∧ Kp w.heap.size p w w' := by
  go_enter Tryd.func106, Tryd.ntmps106
  go_wp2_with fail
  refine (get_u8 p 1 s e w (by decide) hs hr).mono ?_
  rintro r w' ⟨rfl, hr', hk'⟩
  go_wp2
  go_ret
  exact ⟨rfl, hr', hk'⟩
set_option maxRecDepth 100000 in
/-- What 'U8' does to a writer. -/
theorem write_u8 (p B n : Nat) (L : List UInt8) (w : World) (hn : n < 256) (hL : L.length ≤ 1000000) (hw : Wr w p B L) :
    Calls Tryd.prog 92 #[.pointer (some ⟨p, 0, none⟩), .int .u8 n] w fun e w' => e = .returned (.tuple #[]) ∧ Wr w' p B (L ++ leB n 1) ∧ Kp B p w w' := by
  go_enter Tryd.func92, Tryd.ntmps92
  go_wp2_with fail
  refine (put_u8 p B n L 1 w hn (Nat.le_refl _) hL hw).mono ?_
  rintro r w' ⟨rfl, hr', hk'⟩
  go_wp2
  go_end0
  exact ⟨rfl, hr', hk'⟩
set_option maxRecDepth 100000 in
/-- What 'get' answers, and leaves. -/
theorem get_u16 (p k : Nat) (s : ByteArray) (e : Int) (w : World) (hk : k ≤ 2) (hs : s.size ≤ maxLen) (hr : Rd w p s e) :
    Calls Tryd.prog 118 #[.pointer (some ⟨p, 0, none⟩), .int .i64 k] w fun r w' => r = .returned (.int .u16 (V (tkS k s e).data.toList : Nat)) ∧ Rd w' p (tkR k s e) (tkE k s e) ∧ Kp w.heap.size p w w' := by
  obtain ⟨c0, c1, f0, f1⟩ := hr.cells
  have hsz : (tkS k s e).size ≤ k := by unfold tkS; (repeat' split) <;> (simp [bs_size]; try omega)
  have ht := take_any p k s e w (by omega) hs hr
  obtain ⟨q, hq⟩ : ∃ q, q = tkS k s e := ⟨_, rfl⟩
  rw [← hq] at ht hsz ⊢
  have HT := Lib.hid ht
  clear ht hq c0 c1 f0 f1
  go_enter Tryd.func118, Tryd.ntmps118
  go_wp2_with fail
  refine HT.out.mono ?_
  rintro r w' ⟨rfl, hr', hk'⟩
  have HR := Lib.hid hr'
  have HK := Lib.hid hk'
  clear hr' hk' HT hr
  go_wp2
  go_loop [4, 21] (fun x i => ∃ j : Nat, j ≤ q.size ∧ i = .int .i64 j ∧ x = .int .u16 (V (q.data.toList.take j) : Nat)) (fun _ i => q.size - (intOf i).toNat)
  case atStart => exact ⟨0, Nat.zero_le _, rfl, rfl⟩
  case round =>
    obtain ⟨j, hj, rfl, rfl⟩ := hrel
    by_cases hlt : j < q.size
    · have hq1 : j < q.data.toList.length := by simpa using hlt
      have hor := or_bit q.data.toList j hq1
      have hVlt : V (q.data.toList.take j) < 65536 := by
        have := V_lt (q.data.toList.take j)
        refine Nat.lt_of_lt_of_le this (Nat.le_trans (Nat.pow_le_pow_right (by decide) (?_ : _ ≤ 8 * 2)) (by decide))
        rw [List.length_take]; omega
      obtain ⟨y, hy⟩ : ∃ y : Nat, y = q.data.toList[j].toNat := ⟨_, rfl⟩
      have hyl : y < 256 := by rw [hy]; exact UInt8.toNat_lt _
      rw [← hy] at hor
      have hpow : 256 ^ j * y < 65536 := by
        have h1 : 256 ^ j * y < 256 ^ j * 256 := Nat.mul_lt_mul_of_pos_left hyl (Nat.pow_pos (by decide))
        have h2 : 256 ^ j * 256 ≤ 256 ^ 2 := by rw [← Nat.pow_succ]; exact Nat.pow_le_pow_right (by decide) (by omega)
        exact Nat.lt_of_lt_of_le h1 h2
      have hF : IntKind.u64.wrap (IntKind.u64.wrap ((q[j].toNat : Nat) : Int) * 2 ^ (8 * j)) = ((256 ^ j * y : Nat) : Int) := by
        have e0 : ((q[j].toNat : Nat) : Int) = (y : Int) := by rw [hy]; rfl
        have e1 : ((2 : Int) ^ (8 * j)) = ((256 ^ j : Nat) : Int) := by rw [Int.natCast_pow, Int.pow_mul]; rfl
        rw [e0, IntWalk.u64_in (y : Int) (by omega), e1, ← Int.natCast_mul, Nat.mul_comm y, IntWalk.u64_in _ (by omega)]
      have HF := Lib.hid hF
      have HO := Lib.hid hor
      clear hF hor hy
      go_wp2
      go_round
      case rel =>
        refine ⟨j + 1, by omega, by go_num, ?_⟩
        rw [HF.out, IntWalk.u16_in _ (by omega), u16_or_nat _ _ hVlt hpow, HO.out]
      case measure => simp [intOf]; omega
    · obtain rfl : j = q.size := by omega
      have hall : q.data.toList.take q.size = q.data.toList := List.take_of_length_le (by simp)
      rw [hall]
      clear hall
      go_wp2
      go_ret
      exact ⟨rfl, HR.out, HK.out⟩
set_option maxRecDepth 100000 in
/-- What 'U16' of a reader answers, and leaves. -/
theorem read_u16 (p : Nat) (s : ByteArray) (e : Int) (w : World) (hs : s.size ≤ maxLen) (hr : Rd w p s e) :
    Calls Tryd.prog 104 #[.pointer (some ⟨p, 0, none⟩)] w fun r w' => r = .returned (.int .u16 (V (tkS 2 s e).data.toList : Nat)) ∧ Rd w' p (tkR 2 s e) (tkE 2 s e) ∧ Kp w.heap.size p w w' := by
  go_enter Tryd.func104, Tryd.ntmps104
  go_wp2_with fail
  refine (get_u16 p 2 s e w (by decide) hs hr).mono ?_
  rintro r w' ⟨rfl, hr', hk'⟩
  go_wp2
  go_ret
  exact ⟨rfl, hr', hk'⟩
set_option maxRecDepth 100000 in
/-- What 'U16' does to a writer. -/
theorem write_u16 (p B n : Nat) (L : List UInt8) (w : World) (hn : n < 65536) (hL : L.length ≤ 1000000) (hw : Wr w p B L) :
    Calls Tryd.prog 95 #[.pointer (some ⟨p, 0, none⟩), .int .u16 n] w fun e w' => e = .returned (.tuple #[]) ∧ Wr w' p B (L ++ leB n 2) ∧ Kp B p w w' := by
  go_enter Tryd.func95, Tryd.ntmps95
  go_wp2_with fail
  refine (put_u16 p B n L 2 w hn (Nat.le_refl _) hL hw).mono ?_
  rintro r w' ⟨rfl, hr', hk'⟩
  go_wp2
  go_end0
  exact ⟨rfl, hr', hk'⟩
set_option maxRecDepth 100000 in
/-- What 'get' answers, and leaves. -/
theorem get_u32 (p k : Nat) (s : ByteArray) (e : Int) (w : World) (hk : k ≤ 4) (hs : s.size ≤ maxLen) (hr : Rd w p s e) :
    Calls Tryd.prog 119 #[.pointer (some ⟨p, 0, none⟩), .int .i64 k] w fun r w' => r = .returned (.int .u32 (V (tkS k s e).data.toList : Nat)) ∧ Rd w' p (tkR k s e) (tkE k s e) ∧ Kp w.heap.size p w w' := by
  obtain ⟨c0, c1, f0, f1⟩ := hr.cells
  have hsz : (tkS k s e).size ≤ k := by unfold tkS; (repeat' split) <;> (simp [bs_size]; try omega)
  have ht := take_any p k s e w (by omega) hs hr
  obtain ⟨q, hq⟩ : ∃ q, q = tkS k s e := ⟨_, rfl⟩
  rw [← hq] at ht hsz ⊢
  have HT := Lib.hid ht
  clear ht hq c0 c1 f0 f1
  go_enter Tryd.func119, Tryd.ntmps119
  go_wp2_with fail
  refine HT.out.mono ?_
  rintro r w' ⟨rfl, hr', hk'⟩
  have HR := Lib.hid hr'
  have HK := Lib.hid hk'
  clear hr' hk' HT hr
  go_wp2
  go_loop [4, 21] (fun x i => ∃ j : Nat, j ≤ q.size ∧ i = .int .i64 j ∧ x = .int .u32 (V (q.data.toList.take j) : Nat)) (fun _ i => q.size - (intOf i).toNat)
  case atStart => exact ⟨0, Nat.zero_le _, rfl, rfl⟩
  case round =>
    obtain ⟨j, hj, rfl, rfl⟩ := hrel
    by_cases hlt : j < q.size
    · have hq1 : j < q.data.toList.length := by simpa using hlt
      have hor := or_bit q.data.toList j hq1
      have hVlt : V (q.data.toList.take j) < 4294967296 := by
        have := V_lt (q.data.toList.take j)
        refine Nat.lt_of_lt_of_le this (Nat.le_trans (Nat.pow_le_pow_right (by decide) (?_ : _ ≤ 8 * 4)) (by decide))
        rw [List.length_take]; omega
      obtain ⟨y, hy⟩ : ∃ y : Nat, y = q.data.toList[j].toNat := ⟨_, rfl⟩
      have hyl : y < 256 := by rw [hy]; exact UInt8.toNat_lt _
      rw [← hy] at hor
      have hpow : 256 ^ j * y < 4294967296 := by
        have h1 : 256 ^ j * y < 256 ^ j * 256 := Nat.mul_lt_mul_of_pos_left hyl (Nat.pow_pos (by decide))
        have h2 : 256 ^ j * 256 ≤ 256 ^ 4 := by rw [← Nat.pow_succ]; exact Nat.pow_le_pow_right (by decide) (by omega)
        exact Nat.lt_of_lt_of_le h1 h2
      have hF : IntKind.u64.wrap (IntKind.u64.wrap ((q[j].toNat : Nat) : Int) * 2 ^ (8 * j)) = ((256 ^ j * y : Nat) : Int) := by
        have e0 : ((q[j].toNat : Nat) : Int) = (y : Int) := by rw [hy]; rfl
        have e1 : ((2 : Int) ^ (8 * j)) = ((256 ^ j : Nat) : Int) := by rw [Int.natCast_pow, Int.pow_mul]; rfl
        rw [e0, IntWalk.u64_in (y : Int) (by omega), e1, ← Int.natCast_mul, Nat.mul_comm y, IntWalk.u64_in _ (by omega)]
      have HF := Lib.hid hF
      have HO := Lib.hid hor
      clear hF hor hy
      go_wp2
      go_round
      case rel =>
        refine ⟨j + 1, by omega, by go_num, ?_⟩
        rw [HF.out, Int.emod_eq_of_lt (a := ((256 ^ j * y : Nat) : Int)) (by omega) (by omega), u32_or_nat _ _ hVlt hpow, HO.out]
      case measure => simp [intOf]; omega
    · obtain rfl : j = q.size := by omega
      have hall : q.data.toList.take q.size = q.data.toList := List.take_of_length_le (by simp)
      rw [hall]
      clear hall
      go_wp2
      go_ret
      exact ⟨rfl, HR.out, HK.out⟩
set_option maxRecDepth 100000 in
/-- What 'U32' of a reader answers, and leaves. -/
theorem read_u32 (p : Nat) (s : ByteArray) (e : Int) (w : World) (hs : s.size ≤ maxLen) (hr : Rd w p s e) :
    Calls Tryd.prog 105 #[.pointer (some ⟨p, 0, none⟩)] w fun r w' => r = .returned (.int .u32 (V (tkS 4 s e).data.toList : Nat)) ∧ Rd w' p (tkR 4 s e) (tkE 4 s e) ∧ Kp w.heap.size p w w' := by
  go_enter Tryd.func105, Tryd.ntmps105
  go_wp2_with fail
  refine (get_u32 p 4 s e w (by decide) hs hr).mono ?_
  rintro r w' ⟨rfl, hr', hk'⟩
  go_wp2
  go_ret
  exact ⟨rfl, hr', hk'⟩
set_option maxRecDepth 100000 in
/-- What 'U32' does to a writer. -/
theorem write_u32 (p B n : Nat) (L : List UInt8) (w : World) (hn : n < 4294967296) (hL : L.length ≤ 1000000) (hw : Wr w p B L) :
    Calls Tryd.prog 96 #[.pointer (some ⟨p, 0, none⟩), .int .u32 n] w fun e w' => e = .returned (.tuple #[]) ∧ Wr w' p B (L ++ leB n 4) ∧ Kp B p w w' := by
  go_enter Tryd.func96, Tryd.ntmps96
  go_wp2_with fail
  refine (put_u32 p B n L 4 w hn (Nat.le_refl _) hL hw).mono ?_
  rintro r w' ⟨rfl, hr', hk'⟩
  go_wp2
  go_end0
  exact ⟨rfl, hr', hk'⟩
set_option maxRecDepth 100000 in
/-- What 'get' answers, and leaves. -/
theorem get_u64 (p k : Nat) (s : ByteArray) (e : Int) (w : World) (hk : k ≤ 8) (hs : s.size ≤ maxLen) (hr : Rd w p s e) :
    Calls Tryd.prog 147 #[.pointer (some ⟨p, 0, none⟩), .int .i64 k] w fun r w' => r = .returned (.int .u64 (V (tkS k s e).data.toList : Nat)) ∧ Rd w' p (tkR k s e) (tkE k s e) ∧ Kp w.heap.size p w w' := by
  obtain ⟨c0, c1, f0, f1⟩ := hr.cells
  have hsz : (tkS k s e).size ≤ k := by unfold tkS; (repeat' split) <;> (simp [bs_size]; try omega)
  have ht := take_any p k s e w (by omega) hs hr
  obtain ⟨q, hq⟩ : ∃ q, q = tkS k s e := ⟨_, rfl⟩
  rw [← hq] at ht hsz ⊢
  have HT := Lib.hid ht
  clear ht hq c0 c1 f0 f1
  go_enter Tryd.func147, Tryd.ntmps147
  go_wp2_with fail
  refine HT.out.mono ?_
  rintro r w' ⟨rfl, hr', hk'⟩
  have HR := Lib.hid hr'
  have HK := Lib.hid hk'
  clear hr' hk' HT hr
  go_wp2
  go_loop [4, 21] (fun x i => ∃ j : Nat, j ≤ q.size ∧ i = .int .i64 j ∧ x = .int .u64 (V (q.data.toList.take j) : Nat)) (fun _ i => q.size - (intOf i).toNat)
  case atStart => exact ⟨0, Nat.zero_le _, rfl, rfl⟩
  case round =>
    obtain ⟨j, hj, rfl, rfl⟩ := hrel
    by_cases hlt : j < q.size
    · have hq1 : j < q.data.toList.length := by simpa using hlt
      have hor := or_bit q.data.toList j hq1
      have hVlt : V (q.data.toList.take j) < 18446744073709551616 := by
        have := V_lt (q.data.toList.take j)
        refine Nat.lt_of_lt_of_le this (Nat.le_trans (Nat.pow_le_pow_right (by decide) (?_ : _ ≤ 8 * 8)) (by decide))
        rw [List.length_take]; omega
      obtain ⟨y, hy⟩ : ∃ y : Nat, y = q.data.toList[j].toNat := ⟨_, rfl⟩
      have hyl : y < 256 := by rw [hy]; exact UInt8.toNat_lt _
      rw [← hy] at hor
      have hpow : 256 ^ j * y < 18446744073709551616 := by
        have h1 : 256 ^ j * y < 256 ^ j * 256 := Nat.mul_lt_mul_of_pos_left hyl (Nat.pow_pos (by decide))
        have h2 : 256 ^ j * 256 ≤ 256 ^ 8 := by rw [← Nat.pow_succ]; exact Nat.pow_le_pow_right (by decide) (by omega)
        exact Nat.lt_of_lt_of_le h1 h2
      have hF : IntKind.u64.wrap (IntKind.u64.wrap ((q[j].toNat : Nat) : Int) * 2 ^ (8 * j)) = ((256 ^ j * y : Nat) : Int) := by
        have e0 : ((q[j].toNat : Nat) : Int) = (y : Int) := by rw [hy]; rfl
        have e1 : ((2 : Int) ^ (8 * j)) = ((256 ^ j : Nat) : Int) := by rw [Int.natCast_pow, Int.pow_mul]; rfl
        rw [e0, IntWalk.u64_in (y : Int) (by omega), e1, ← Int.natCast_mul, Nat.mul_comm y, IntWalk.u64_in _ (by omega)]
      have HF := Lib.hid hF
      have HO := Lib.hid hor
      clear hF hor hy
      go_wp2
      go_round
      case rel =>
        refine ⟨j + 1, by omega, by go_num, ?_⟩
        rw [HF.out, u64_or_nat _ _ hVlt hpow, HO.out]
      case measure => simp [intOf]; omega
    · obtain rfl : j = q.size := by omega
      have hall : q.data.toList.take q.size = q.data.toList := List.take_of_length_le (by simp)
      rw [hall]
      clear hall
      go_wp2
      go_ret
      exact ⟨rfl, HR.out, HK.out⟩
set_option maxRecDepth 100000 in
/-- What 'U64' of a reader answers, and leaves. -/
theorem read_u64 (p : Nat) (s : ByteArray) (e : Int) (w : World) (hs : s.size ≤ maxLen) (hr : Rd w p s e) :
    Calls Tryd.prog 146 #[.pointer (some ⟨p, 0, none⟩)] w fun r w' => r = .returned (.int .u64 (V (tkS 8 s e).data.toList : Nat)) ∧ Rd w' p (tkR 8 s e) (tkE 8 s e) ∧ Kp w.heap.size p w w' := by
  go_enter Tryd.func146, Tryd.ntmps146
  go_wp2_with fail
  refine (get_u64 p 8 s e w (by decide) hs hr).mono ?_
  rintro r w' ⟨rfl, hr', hk'⟩
  go_wp2
  go_ret
  exact ⟨rfl, hr', hk'⟩
set_option maxRecDepth 100000 in
/-- What 'U64' does to a writer. -/
theorem write_u64 (p B n : Nat) (L : List UInt8) (w : World) (hn : n < 18446744073709551616) (hL : L.length ≤ 1000000) (hw : Wr w p B L) :
    Calls Tryd.prog 141 #[.pointer (some ⟨p, 0, none⟩), .int .u64 n] w fun e w' => e = .returned (.tuple #[]) ∧ Wr w' p B (L ++ leB n 8) ∧ Kp B p w w' := by
  go_enter Tryd.func141, Tryd.ntmps141
  go_wp2_with fail
  refine (put_u64 p B n L 8 w hn (Nat.le_refl _) hL hw).mono ?_
  rintro r w' ⟨rfl, hr', hk'⟩
  go_wp2
  go_end0
  exact ⟨rfl, hr', hk'⟩
set_option maxRecDepth 100000 in
/-- What 'Rest' answers. -/
theorem rest_any (p : Nat) (s : ByteArray) (e : Int) (w : World) (hr : Rd w p s e) :
    Calls Tryd.prog 69 #[.pointer (some ⟨p, 0, none⟩)] w fun r w' => r = .returned (.string s) ∧ w = w' := by
  obtain ⟨c0, c1, f0, f1⟩ := hr.cells
  go_enter Tryd.func69, Tryd.ntmps69
  go_wp2
  go_ret
  exact ⟨rfl, rfl⟩
set_option maxRecDepth 100000 in
/-- What 'New' makes. -/
theorem new_any (s : ByteArray) (w : World) :
    Calls Tryd.prog 66 #[.string s] w fun r w' => r = .returned (.pointer (some ⟨w.heap.size, 0, none⟩)) ∧ Rd w' w.heap.size s 0 ∧ Below w.heap.size w w' ∧ w'.heap.size = w.heap.size + 1 := by
  go_enter Tryd.func66, Tryd.ntmps66
  go_wp2
  go_ret
  exact ⟨rfl, ⟨_, heap_alloc_new w _⟩, (Below.refl _ _).alloc (Nat.le_refl _) _, by simp⟩
end Go.Proofs.YtdgbililgkhjfaaDoor.Codec
