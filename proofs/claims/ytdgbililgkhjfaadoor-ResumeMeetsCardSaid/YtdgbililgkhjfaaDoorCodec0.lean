/- Bytes of numbers, the writer's and the reader's blocks: plain words. No conditions. -/
import Derived.Test.YtdgbililgkhjfaaDoorProg
import Derived.Test.YtdgbililgkhjfaaDoorCrc
import Derived.Below
import Derived.OneCell
import Derived.OwnWalk
import Derived.WalkKit
import Derived.KernelRfl
import Derived.Deep.LoopGhost
import Derived.Deep.QuietTactic
import Derived.BigQuiet
import Derived.WideLaws
import Derived.WalkLawsBesides
import Derived.WalkSpells
import Derived.Outline
import Derived.Lib.Hide
import Derived.Lib.ConvBytes
import Derived.Laws.BytesArg
import Derived.Laws.BitsAllLaws
import Derived.Deep.RegionHeld3
import Derived.Deep.AppendLies
import Derived.Deep.RegionLawGrows
import Derived.Deep.OwnRows
import Derived.BigRegion
namespace Go.Proofs.YtdgbililgkhjfaaDoor.Codec
open Go.RowKit Go.Proofs.YtdgbililgkhjfaaDoor.Crc
set_option linter.unusedVariables false
/-- A number's bytes, the lowest first. -/
def leB (n : Nat) : Nat → List UInt8
  | 0 => []
  | k + 1 => UInt8.ofNat (n % 256) :: leB (n / 256) k
theorem leB_length (k : Nat) : ∀ n, (leB n k).length = k := by induction k with | zero => intro n; rfl | succ k ih => intro n; simp [leB, ih]
theorem leB_snoc (k : Nat) : ∀ n, leB n (k + 1) = leB n k ++ [UInt8.ofNat (n / 256 ^ k % 256)] := by
  induction k with
  | zero => intro n; simp [leB]
  | succ k ih =>
    intro n
    rw [leB, ih (n / 256), leB, List.cons_append, Nat.div_div_eq_div_mul, Nat.pow_succ, Nat.mul_comm 256]
theorem leB_V (k : Nat) : ∀ n, V (leB n k) = n % 256 ^ k := by
  induction k with
  | zero => intro n; simp [leB, V, Nat.mod_one]
  | succ k ih =>
    intro n
    rw [leB, V, ih, UInt8.toNat_ofNat', Nat.mod_eq_of_lt (by omega), Nat.pow_succ, Nat.mul_comm (256 ^ k), Nat.mod_mul]
theorem V_leB (l : List UInt8) : leB (V l) l.length = l := by
  induction l with
  | nil => rfl
  | cons b l ih =>
    have hb := b.toNat_lt
    rw [List.length_cons, leB, V, show (b.toNat + 256 * V l) % 256 = b.toNat by omega, show (b.toNat + 256 * V l) / 256 = V l by omega, ih]
    simp
theorem V_inj {l m : List UInt8} (h : l.length = m.length) (hV : V l = V m) : l = m := by rw [← V_leB l, ← V_leB m, h, hV]
/-- A byte as a cell. -/
def bc (b : UInt8) : Value := .int .u8 b.toNat
/-- A text of these bytes. -/
def bs (l : List UInt8) : ByteArray := ⟨l.toArray⟩
theorem bs_toList (l : List UInt8) : (bs l).data.toList = l := rfl
theorem to_bs (s : ByteArray) : bs s.data.toList = s := by unfold bs; simp
theorem bs_size (l : List UInt8) : (bs l).size = l.length := by simp [bs, ByteArray.size]
/-- The one block that may have turned below B is p's. -/
structure Kp (B p : Nat) (w w' : World) : Prop where
  os : w'.os = w.os
  tape : w'.tape = w.tape
  output : w'.output = w.output
  size : w.heap.size ≤ w'.heap.size
  block : ∀ k, k < B → k ≠ p → w'.heap[k]? = w.heap[k]?
theorem Kp.refl (B p : Nat) (w : World) : Kp B p w w := ⟨rfl, rfl, rfl, Nat.le_refl _, fun _ _ _ => rfl⟩
theorem Kp.trans {B p : Nat} {a b c : World} (h : Kp B p a b) (k : Kp B p b c) : Kp B p a c :=
  ⟨k.os.trans h.os, k.tape.trans h.tape, k.output.trans h.output, Nat.le_trans h.size k.size, fun i hi hp => (k.block i hi hp).trans (h.block i hi hp)⟩
theorem Kp.of_below {B p : Nat} {w w' : World} (h : Below B w w') : Kp B p w w' := ⟨h.os, h.tape, h.output, h.size, fun k hk _ => h.block k hk⟩
theorem Kp.below {B p B' : Nat} {w w' : World} (h : Kp B p w w') (h1 : B' ≤ B) (h2 : B' ≤ p) : Below B' w w' :=
  ⟨h.os, h.tape, h.output, h.size, fun k hk => h.block k (by omega) (by omega)⟩
theorem Kp.mono {B p B' : Nat} {w w' : World} (h : Kp B p w w') (h1 : B' ≤ B) : Kp B' p w w' := ⟨h.os, h.tape, h.output, h.size, fun k hk hp => h.block k (by omega) hp⟩
theorem Kp.setCell {B p : Nat} {a w : World} (h : Kp B p a w) (q : Addr) (hq : q.block = p) (u : Value) : Kp B p a (w.setCell q u) :=
  h.trans ⟨rfl, rfl, rfl, by simp [World.setCell], fun k _ hp => Below.heap_setCell _ _ _ _ (by omega)⟩
theorem Kp.drew {B p : Nat} {a w : World} (h : Kp B p a w) : Kp B p a w.drew := ⟨h.os, h.tape, h.output, h.size, h.block⟩
theorem Kp.alloc {B p : Nat} {a w : World} (h : Kp B p a w) (hB : B ≤ w.heap.size) (o : Obj) : Kp B p a (w.alloc o) :=
  h.trans (Kp.of_below ((Below.refl _ _).alloc hB o))
theorem Kp.grown {B p : Nat} {a w w' : World} {row : Option Nat} (h : Kp B p a w) (hg : w.grownBy w' row) (hB : B ≤ w.heap.size) (hr : ∀ k, row = some k → B ≤ k) : Kp B p a w' :=
  h.trans (Kp.of_below ((Below.refl _ _).grown hg hB hr))
/-- A writer: its block p holds a row of bytes of its own, from block B on. -/
def Wr (w : World) (p B : Nat) (L : List UInt8) : Prop := ∃ v t, w.heap[p]? = some (.cells #[v] t (0, 0)) ∧ w.ownsRow B 5 1 v L.length (L.map bc) ∧ p < B ∧ B ≤ w.heap.size
/-- A reader: its block p holds what is left, and the first error. -/
def Rd (w : World) (p : Nat) (s : ByteArray) (e : Int) : Prop := ∃ t, w.heap[p]? = some (.cells #[.string s, .int .i64 e] t (0, 0))
theorem info5 : (Tryd.prog.info? 5).map (fun i => (i.zero, i.size, i.bytes)) = some (some (.int .u8 0), 1, 1) := by kernel_rfl
theorem Wr.nil {w : World} {p B : Nat} {t : TypeId} (h : w.heap[p]? = some (.cells #[.slice none 0 0] t (0, 0))) (hp : p < B) (hB : B ≤ w.heap.size) : Wr w p B [] :=
  ⟨_, t, h, World.ownsRow_nil w B 5 1, hp, hB⟩
theorem own_ne {w : World} {p B : Nat} {v : Value} {n : Nat} {xs : List Value} (h : w.ownsRow B 5 1 v n xs) (hp : p < B) : v.ownBlock ≠ some p := fun e => by
  have := (h.lt p e).1
  omega
theorem grown_block {w w1 : World} {p : Nat} {v : Value} {t : TypeId} {o : Obj} (hc : w.heap[p]? = some (.cells #[v] t (0, 0))) (hg : (w.alloc o).drew.grownBy w1 v.ownBlock) (hne : v.ownBlock ≠ some p) : w1.heap[p]? = some (.cells #[v] t (0, 0)) :=
  (hg.block p (by have := lt_of_block hc; simp; omega) (fun e => hne e.symm)).trans ((Below.heap_alloc w o p (lt_of_block hc)).trans hc)
theorem byte_div (n k : Nat) : ((n / 256 ^ k % 256 : Nat) : Int) = (n : Int) / 2 ^ (8 * k) % 256 := by
  have h2 : ((2 : Int) ^ (8 * k)) = ((256 ^ k : Nat) : Int) := by rw [Int.natCast_pow, Int.pow_mul]; rfl
  rw [h2]
  simp
theorem wr_push {w1 : World} {p B g cap : Nat} {v : Value} {t : TypeId} {LL : List UInt8} {b : UInt8} (hc1 : w1.heap[p]? = some (.cells #[v] t (0, 0)))
    (hown1 : w1.ownsRow B 5 1 (.slice (some ⟨g, 0, none⟩) (LL.length + 1) cap) (LL.length + 1) (List.map bc LL ++ [.int .u8 b.toNat])) (hpB : p < B) (hB : B ≤ w1.heap.size) :
    Wr (w1.setCell ⟨p, 0, none⟩ (.slice (some ⟨g, 0, none⟩) (LL.length + 1) cap)) p B (LL ++ [b]) := by
  refine ⟨_, t, one_setCell hc1, ?_, hpB, by simpa [World.setCell] using hB⟩
  have := ownsRow_setCell_below hown1 (a := ⟨p, 0, none⟩) hpB (.slice (some ⟨g, 0, none⟩) (LL.length + 1) cap)
  simpa [bc] using this
theorem kp_push {w wr w1 : World} {p B : Nat} {v : Value} {n : Nat} {xs : List Value} {o : Obj} (hkp : Kp B p w wr) (hB : B ≤ wr.heap.size) (hown : wr.ownsRow B 5 1 v n xs) (hg : (wr.alloc o).drew.grownBy w1 v.ownBlock) (u : Value) :
    Kp B p w (w1.setCell ⟨p, 0, none⟩ u) :=
  (((hkp.alloc hB o).drew).grown hg (by simp; omega) (fun k e => (hown.lt k e).1)).setCell _ rfl _
theorem bc_one (l : List UInt8) : ∀ u ∈ l.map bc, u.oneCell' = true := by
  intro u hu
  obtain ⟨b, _, rfl⟩ := List.mem_map.1 hu
  rfl
end Go.Proofs.YtdgbililgkhjfaaDoor.Codec
