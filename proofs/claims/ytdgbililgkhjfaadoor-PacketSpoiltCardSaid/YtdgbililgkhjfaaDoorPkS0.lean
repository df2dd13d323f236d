/- Bits of a row of bytes: words for the law PacketSpoilt. No conditions. -/
import Derived.Test.YtdgbililgkhjfaaDoorPkY
import Derived.Test.YtdgbililgkhjfaaDoorFrameT0
import Derived.RegionTactic
namespace Go.Proofs.YtdgbililgkhjfaaDoor.Frame
open Go.RowKit Go.Proofs.YtdgbililgkhjfaaDoor.Crc Go.Proofs.YtdgbililgkhjfaaDoor.Codec Go.Proofs.YtdgbililgkhjfaaDoor.CrcWalk
set_option linter.unusedVariables false
/-- A row of bytes that may be written. -/
def Row (w : World) (g : Nat) (L : List UInt8) : Prop := ∀ j, j < L.length → w.cell? ⟨g, j, none⟩ = some (.int .u8 (L.getD j 0).toNat) ∧ w.frozen? ⟨g, j, none⟩ = false
theorem row_new (w : World) (s : ByteArray) : Row (Lib.bytesWorld w 5 s) w.heap.size s.data.toList := by
  intro j hj
  have hj' : j < s.size := by simpa using hj
  refine ⟨Lib.bytesWorld_cell w 5 s j hj', ?_⟩
  have hsz : s.size ≤ (Lib.bytesCells w 5 s).size := by simp [Lib.bytesCells]
  simp [World.frozen?, Lib.bytesWorld_at_new]
  omega
theorem row_set {w : World} {g : Nat} {L : List UInt8} (h : Row w g L) (i : Nat) (hi : i < L.length) (b : UInt8) : Row (w.setCell ⟨g, i, none⟩ (.int .u8 b.toNat)) g (L.set i b) := by
  intro j hj
  have hj' : j < L.length := by simpa using hj
  refine ⟨?_, by rw [World.frozen?_setCell]; exact (h j hj').2⟩
  by_cases e : j = i
  · subst e
    rw [World.cell?_setCell_same w _ _ (h j hj').1]
    simp [List.getD, hj']
  · rw [World.cell?_setCell_other w _ _ _ (by intro h; injection h with _ h; exact e h.symm), (h j hj').1]
    simp [List.getD, Ne.symm e]
theorem row_drew {w : World} {g : Nat} {L : List UInt8} (h : Row w g L) : Row w.drew g L := h
theorem pow_bit (at_ k p x : Nat) (hp : p < 2 ^ k) (v w : Nat) (hv : v = w ^^^ 2 ^ at_ * p) (i : Nat) (hi : i = (at_ + k) / 8) : v ^^^ 2 ^ (8 * i) * 2 ^ ((at_ + k) % 8) = w ^^^ 2 ^ at_ * (p + 2 ^ k) := by
  rw [hv, ← Nat.pow_add, hi, show 8 * ((at_ + k) / 8) + (at_ + k) % 8 = at_ + k by omega, Nat.xor_assoc]
  congr 1
  have h := xor_high k p 1 hp
  rw [Nat.mul_one] at h
  rw [← h, Nat.pow_add]
  have h2 := Nat.shiftLeft_xor_distrib (a := p) (b := 2 ^ k) (i := at_)
  simp only [Nat.shiftLeft_eq] at h2
  rw [Nat.mul_comm (2 ^ at_) (p ^^^ 2 ^ k), h2, Nat.mul_comm p, Nat.mul_comm (2 ^ k)]
theorem mod_bit (x k : Nat) : x % 2 ^ (k + 1) = x % 2 ^ k + 2 ^ k * (x / 2 ^ k % 2) := by
  rw [Nat.pow_succ, Nat.mod_mul]
theorem pow_mod (m : Nat) (hm : m < 8) : ((2 ^ m : Nat) : Int) = (2 : Int) ^ m % 256 := by
  have : ∀ j : Fin 8, ((2 ^ j.1 : Nat) : Int) = (2 : Int) ^ j.1 % 256 := by decide
  exact this ⟨m, hm⟩
theorem nums_toList (L : List UInt8) : (strOfNums (L.map fun b => ((b.toNat : Nat) : Int))).data.toList = L := by
  rw [strOfNums_data, List.map_map]
  conv => rhs; rw [← List.map_id L]
  refine List.map_congr_left fun b _ => ?_
  simp
theorem row_conv {w : World} {g : Nat} {L : List UInt8} (h : Row w g L) (n c : Nat) (hn : L.length = n) : (convert 47 9 (.slice (some ⟨g, 0, none⟩) n c)).run Tryd.prog w = .ok (.string (bs L)) w := by
  have hr := run_convert_bytes_arg w 47 5 Tryd.underlying47 Tryd.underlying5 g 0 n c (L.map fun b => ((b.toNat : Nat) : Int)) (by simpa using hn) (fun i hi => by
    rw [Nat.zero_add, (h i (by omega)).1]
    simp [List.getD, show i < L.length by omega]) 9 Tryd.underlying9
  rw [hr]
  have := eq_bs (nums_toList L)
  rw [this]
theorem grown_bytes (w : World) (s : ByteArray) : Below w.heap.size w (Lib.bytesWorld w 5 s) := by
  have hgr : w.grownBy (Lib.bytesWorld w 5 s) none := ⟨rfl, rfl, rfl, by rw [Lib.bytesWorld_size]; omega, fun k hk _ => Lib.bytesWorld_at_old w 5 s k hk⟩
  exact (Below.refl _ _).grown hgr (Nat.le_refl _) (fun k h => by cases h)
theorem bit_val (bts k : Nat) (hb : bts < 4294967296) : bits .and .u32 ((bts : Int) / 2 ^ k) 1 = ((bts / 2 ^ k % 2 : Nat) : Int) := by
  have := u32_and_nat (bts / 2 ^ k) 1 (Nat.lt_of_le_of_lt (Nat.div_le_self _ _) hb) (by omega)
  rw [show ((1 : Nat) : Int) = 1 from rfl] at this
  rw [Nat.and_two_pow_sub_one_eq_mod _ 1] at this
  rw [← this, Int.natCast_ediv, Int.natCast_pow]; rfl
end Go.Proofs.YtdgbililgkhjfaaDoor.Frame
