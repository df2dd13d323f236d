/- What the functions of the package crc answer, as plain numbers: each by a walk of its own. Condition: the world holds the table. -/
import Derived.Test.YtdgbililgkhjfaaDoorProg
import Derived.Test.YtdgbililgkhjfaaDoorCrc
import Derived.Below
import Derived.OwnWalk
import Derived.WalkKit
import Derived.KernelRfl
import Derived.Deep.LoopGhost
import Derived.Deep.QuietTactic
import Derived.BigQuiet
import Derived.WideLaws
import Derived.WalkLawsBesides
import Derived.Outline
import Derived.Lib.Hide
import Derived.Laws.BitsAllLaws
namespace Go.Proofs.YtdgbililgkhjfaaDoor.CrcWalk
open Go.RowKit Go.Proofs.YtdgbililgkhjfaaDoor.Crc
theorem max2_i (k k' : IntKind) (x y : Int) : Builtin.max2 (.int k x) (.int k' y) = pure (.int k (if x < y then y else x)) := by simp only [Builtin.max2, gt_iff_lt]
theorem min2_i (k k' : IntKind) (x y : Int) : Builtin.min2 (.int k x) (.int k' y) = pure (.int k (if y < x then y else x)) := by simp only [Builtin.min2]
theorem max_2 (ts : Array TypeId) (t : TypeId) (a b : Value) : Builtin.max_ ts t #[a, b] = (Builtin.max2 a b >>= fun v => pure v) := by simp only [Builtin.max_, List.foldlM_cons, List.foldlM_nil]
theorem min_2 (ts : Array TypeId) (t : TypeId) (a b : Value) : Builtin.min_ ts t #[a, b] = (Builtin.min2 a b >>= fun v => pure v) := by simp only [Builtin.min_, List.foldlM_cons, List.foldlM_nil]
attribute [local go_sem] max2_i min2_i max_2 min_2
/-- The table's numbers. -/
def tab : List Int := [0, 498536548, 997073096, 651767980, 1994146192, 1802195444, 1303535960, 1342533948, 3988292384, 4027552580, 3604390888, 3412177804, 2607071920, 2262029012, 2685067896, 3183342108]
/-- The world holds the table. -/
def Tab (w : World) : Prop := ∀ i : Nat, i < 16 → w.cell? ⟨0, i, none⟩ = some (.int .u32 (tab.getD i 0))
set_option linter.unusedVariables false
set_option maxRecDepth 100000 in
theorem step_walk (c b x i t y j u z : Int) (w : World) (hc0 : 0 ≤ c) (hc1 : c ≤ 4294967295) (hb0 : 0 ≤ b) (hb1 : b ≤ 255) (hi0 : 0 ≤ i) (hi1 : i < 16) (hj0 : 0 ≤ j) (hj1 : j < 16) (hx0 : 0 ≤ x) (hx1 : x ≤ 4294967295) (hy0 : 0 ≤ y) (hy1 : y ≤ 4294967295)
    (e1 : bits .xor .u32 c b = x) (e2 : bits .and .u32 x 15 = i) (e3 : w.cell? ⟨0, i.toNat, none⟩ = some (.int .u32 t)) (e4 : bits .xor .u32 t (x / 16) = y) (e5 : bits .and .u32 y 15 = j) (e6 : w.cell? ⟨0, j.toNat, none⟩ = some (.int .u32 u)) (e7 : bits .xor .u32 u (y / 16) = z) :
    Calls Tryd.prog 116 #[.int .u32 c, .int .u8 b] w fun e w' => e = .returned (.int .u32 z) ∧ w = w' := by
  go_enter Tryd.func116, Tryd.ntmps116
  go_wp2
  go_ret
  exact ⟨rfl, rfl⟩
theorem tab_It (i : Nat) (hi : i < 16) : tab.getD i 0 = ((It 4 i : Nat) : Int) := by
  have : ∀ i : Fin 16, tab.getD i.1 0 = ((It 4 i.1 : Nat) : Int) := by decide
  exact this ⟨i, hi⟩
theorem nibble (x : Nat) : It 4 (x % 16) ^^^ x / 16 = It 4 x := by
  have h := It_low 4 (x % 16) (x / 16)
  rw [xor_high 4 (x % 16) (x / 16) (by omega), show 2 ^ 4 = 16 from rfl, Nat.mod_add_div] at h
  exact h.symm
/-- What 'step' answers. -/
theorem step_any (c b : Nat) (w : World) (hc : c < 4294967296) (hb : b < 256) (hT : Tab w) :
    Calls Tryd.prog 116 #[.int .u32 c, .int .u8 b] w fun e w' => e = .returned (.int .u32 (B c b : Nat)) ∧ w = w' := by
  have hx : c ^^^ b < 2 ^ 32 := Nat.xor_lt_two_pow hc (by omega)
  have hy : It 4 (c ^^^ b) < 2 ^ 32 := It_lt 4 hx
  have ex : (c ^^^ b) % 16 < 16 := Nat.mod_lt _ (by decide)
  have ey : It 4 (c ^^^ b) % 16 < 16 := Nat.mod_lt _ (by decide)
  have and15 (n : Nat) (h : n < 2 ^ 32) : bits .and .u32 (n : Int) 15 = ((n % 16 : Nat) : Int) := by
    have := u32_and_nat n 15 (by omega) (by omega)
    rw [show ((15 : Nat) : Int) = 15 from rfl] at this
    rw [this]
    exact congrArg _ (Nat.and_two_pow_sub_one_eq_mod n 4)
  have sh (n : Nat) (h : n < 2 ^ 32) : bits .xor .u32 ((It 4 (n % 16) : Nat) : Int) ((n : Int) / 16) = ((It 4 n : Nat) : Int) := by
    have := u32_xor_nat (It 4 (n % 16)) (n / 16) (It_lt 4 (by omega)) (by omega)
    rw [nibble] at this
    rw [← this]; rfl
  exact step_walk c b (c ^^^ b : Nat) ((c ^^^ b) % 16 : Nat) (It 4 ((c ^^^ b) % 16) : Nat) (It 4 (c ^^^ b) : Nat) (It 4 (c ^^^ b) % 16 : Nat) (It 4 (It 4 (c ^^^ b) % 16) : Nat) (B c b : Nat) w
    (by omega) (by omega) (by omega) (by omega) (by omega) (by omega) (by omega) (by omega) (by omega) (by omega) (by omega) (by omega)
    (u32_xor_nat c b hc (by omega)) (and15 _ hx) (by rw [Int.toNat_natCast, hT _ ex, tab_It _ ex]) (sh _ hx) (and15 _ hy) (by rw [Int.toNat_natCast, hT _ ey, tab_It _ ey])
    (by rw [sh _ hy]; unfold B; rw [← It_add 4 4])
theorem take_snoc (l : List UInt8) (k : Nat) (h : k < l.length) : l.take (k + 1) = l.take k ++ [l[k]] := by
  rw [List.take_succ_eq_append_getElem h]
theorem upd_snoc (c : Nat) (l : List UInt8) (k : Nat) (h : k < l.length) : upd c (l.take (k + 1)) = B (upd c (l.take k)) l[k].toNat := by
  rw [take_snoc l k h, upd_append]; rfl
set_option maxRecDepth 100000 in
/-- What 'Update' answers. -/
theorem update_any (c : Nat) (s : ByteArray) (w : World) (hc : c < 4294967296) (hs : s.size ≤ maxLen) (hT : Tab w) :
    Calls Tryd.prog 97 #[.int .u32 c, .string s] w fun e w' => e = .returned (.int .u32 (crc c s.data.toList : Nat)) ∧ w = w' := by
  unfold maxLen at hs
  obtain ⟨d, hd⟩ : ∃ d, d = c ^^^ M := ⟨_, rfl⟩
  have hd1 : d < 4294967296 := by rw [hd]; exact Nat.xor_lt_two_pow (n := 32) hc (by decide)
  have e1 : bits .xor .u32 4294967295 (c : Int) = (d : Int) := by
    have := u32_xor_nat M c (by decide) hc
    rw [Nat.xor_comm, ← hd] at this
    exact this
  have H : Hid (crc c s.data.toList = upd d s.data.toList ^^^ M) := Lib.hid (by rw [hd]; rfl)
  clear hd
  have hsg : IntKind.u32.signed = false := rfl
  have hmx : IntKind.u32.max = 4294967295 := rfl
  go_enter Tryd.func97, Tryd.ntmps97
  go_wp2
  clear e1
  go_loop [0, 10] (fun x i => ∃ k : Nat, k ≤ s.size ∧ i = .int .i64 k ∧ x = .int .u32 (upd d (s.data.toList.take k) : Nat)) (fun _ i => s.size - (intOf i).toNat)
  case atStart => exact ⟨0, Nat.zero_le _, rfl, rfl⟩
  case round =>
    obtain ⟨k, hk, rfl, rfl⟩ := hrel
    have hu := upd_lt hd1 (s.data.toList.take k)
    by_cases hlt : k < s.size
    · have HS := Lib.hid (upd_snoc d s.data.toList k (by simpa using hlt))
      obtain ⟨u, eu⟩ : ∃ u, u = upd d (s.data.toList.take k) := ⟨_, rfl⟩
      rw [← eu] at hu HS ⊢
      clear eu
      go_wp2_with (go_at_call 116; refine (step_any u _ w hu (UInt8.toNat_lt _) hT).mono ?_; rintro e w' ⟨rfl, rfl⟩)
      go_round
      case rel => exact ⟨k + 1, by omega, by go_num, by rw [HS.out]; rfl⟩
      case measure => simp [intOf]; omega
    · have hz : upd d s.data.toList ^^^ M = upd d s.data.toList ^^^ M := rfl
      obtain rfl : k = s.size := by omega
      have e2 : bits .xor .u32 4294967295 ((upd d (s.data.toList.take s.size) : Nat) : Int) = ((crc c s.data.toList : Nat) : Int) := by
        have := u32_xor_nat M (upd d (s.data.toList.take s.size)) (by decide) hu
        rw [Nat.xor_comm, List.take_of_length_le (by simp), ← H.out] at this
        rw [List.take_of_length_le (by simp)]
        exact this
      clear H
      go_wp2
      go_ret
      exact ⟨rfl, rfl⟩
set_option maxRecDepth 100000 in
/-- What 'Sum' answers. -/
theorem sum_any (s : ByteArray) (w : World) (hs : s.size ≤ maxLen) (hT : Tab w) :
    Calls Tryd.prog 98 #[.string s] w fun e w' => e = .returned (.int .u32 (crc 0 s.data.toList : Nat)) ∧ w = w' := by
  go_enter Tryd.func98, Tryd.ntmps98
  go_wp2_with (go_at_call 97; refine (update_any 0 s w (by decide) hs hT).mono ?_; rintro e w' ⟨rfl, rfl⟩)
  go_ret
  exact ⟨rfl, rfl⟩
end Go.Proofs.YtdgbililgkhjfaaDoor.CrcWalk
