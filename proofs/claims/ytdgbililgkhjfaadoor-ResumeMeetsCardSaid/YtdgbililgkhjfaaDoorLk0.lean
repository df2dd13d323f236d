/- A link: plain words. No conditions. -/
import Derived.Test.YtdgbililgkhjfaaDoorPkV0
namespace Go.Proofs.YtdgbililgkhjfaaDoor.Lk
open Go.RowKit Go.Proofs.YtdgbililgkhjfaaDoor.Crc Go.Proofs.YtdgbililgkhjfaaDoor.Codec Go.Proofs.YtdgbililgkhjfaaDoor.Pk
set_option linter.unusedVariables false
/-- A link. -/
structure L where
  epoch : Nat
  count : Nat
  owned : Nat
  met : Bool
  player : Nat
  own : Nat
  every : Nat
  last : Nat
  urged : Bool
  spoke : Bool
/-- The program's cells of a link, and the document's. -/
def lc (l : L) : Array Value := #[.int .u64 l.epoch, .int .u64 l.count, .int .u64 l.owned, .bool l.met, .int .u8 l.player, .int .u64 l.own, .int .u64 l.every, .int .u64 l.last, .bool l.urged, .bool l.spoke]
def rlc (l : L) : Array Value := #[.int .u8 l.player, .int .u64 l.own, .int .u64 l.every, .int .u64 l.epoch, .int .u64 l.count, .int .u64 l.owned, .bool l.met, .bool l.urged, .bool l.spoke, .int .u64 l.last]
/-- The numbers are what their types bear; it is one that was made. -/
structure L.wf (l : L) : Prop where
  epoch : l.epoch < 18446744073709551616
  count : l.count < 18446744073709551616
  owned : l.owned < 18446744073709551616
  player : l.player < 256
  own : l.own < 18446744073709551616
  every : 0 < l.every
  every16 : l.every ≤ 16
  last : l.last < 18446744073709551616
def L.make (player epoch every : Nat) : L := ⟨0, 0, 0, false, player, epoch, every, 0, true, false⟩
/-- What a packet tells. -/
def L.told (l : L) (k : K) : L :=
  { l with
    epoch := max l.epoch k.epoch
    count := max l.count k.count
    owned := if k.kind = 3 then max (max l.owned k.own) (k.first + k.ins.length) else max l.owned k.own
    met := (!decide (l.epoch < k.epoch) && l.met) || decide (k.dest = l.own)
    urged := l.urged || decide (l.epoch < k.epoch) || decide (k.kind = 1) }
/-- What 'Accept' answers, and what the link is then. -/
def L.acc (l : L) (k : K) : L × Int :=
  if ¬ (k.may ∧ k.only = k) ∨ k.player = l.player then (l, 4)
  else if k.epoch < l.epoch ∨ (k.dest ≠ l.own ∧ k.kind ≠ 1) then (l, 12) else (l.told k, 0)
def L.due (l : L) (now : Nat) : Bool := l.urged || (!l.spoke || (decide (l.last ≤ now) && decide (l.every ≤ now - l.last)))
def L.sent (l : L) (now : Nat) : L := { l with urged := false, spoke := true, last := now }
def L.urge (l : L) : L := { l with urged := true }
def L.hdr (l : L) (kind : Int) (count : Nat) : K := ⟨kind, l.player, l.own, l.epoch, count, 0, 0, [], [], 0, 0⟩
def L.first (l : L) (a b : Nat) : Nat := min b (max a l.count)
def L.many (l : L) (a b : Nat) : Nat := min (b - l.first a b) 32
theorem L.sent_wf {l : L} (h : l.wf) {now : Nat} (hn : now < 18446744073709551616) : (l.sent now).wf := ⟨h.epoch, h.count, h.owned, h.player, h.own, h.every, h.every16, hn⟩
theorem L.urge_wf {l : L} (h : l.wf) : l.urge.wf := ⟨h.epoch, h.count, h.owned, h.player, h.own, h.every, h.every16, h.last⟩
theorem L.told_wf {l : L} {k : K} (h : l.wf) (hk : k.wf) (hm : k.may) : (l.told k).wf := by
  have h1 := hm.2.2.2.2.2.2.2.2.1
  have h2 := hk.own
  have h3 := h.owned
  refine ⟨?_, ?_, ?_, h.player, h.own, h.every, h.every16, h.last⟩
  · exact Nat.max_lt.2 ⟨h.epoch, hk.epoch⟩
  · exact Nat.max_lt.2 ⟨h.count, hk.count⟩
  · show (if k.kind = 3 then max (max l.owned k.own) (k.first + k.ins.length) else max l.owned k.own) < _
    split
    · exact Nat.max_lt.2 ⟨Nat.max_lt.2 ⟨h3, h2⟩, by omega⟩
    · exact Nat.max_lt.2 ⟨h3, h2⟩
theorem L.acc_wf {l : L} {k : K} (h : l.wf) (hk : k.wf) : (l.acc k).1.wf := by
  unfold L.acc
  split
  · exact h
  · next h1 =>
    split
    · exact h
    · exact L.told_wf h hk (by
        have h2 : k.may ∧ k.only = k := Classical.not_not.1 fun h3 => h1 (.inl h3)
        exact h2.1)
theorem L.make_wf {player epoch every : Nat} (h1 : player < 256) (h2 : epoch < 18446744073709551616) (h3 : 0 < every) (h4 : every ≤ 16) : (L.make player epoch every).wf :=
  have z : (0 : Nat) < 18446744073709551616 := by decide
  ⟨z, z, z, h1, h2, h3, h4, z⟩
end Go.Proofs.YtdgbililgkhjfaaDoor.Lk
