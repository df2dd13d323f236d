/- The writing methods of the layer packet's pass: each walked. Conditions: the blocks. -/
import Derived.Test.YtdgbililgkhjfaaDoorPkB
import Derived.Test.YtdgbililgkhjfaaDoorPkW
import Derived.Deep.RegionWith
namespace Go.Proofs.YtdgbililgkhjfaaDoor.Pk
open Go.RowKit Go.Proofs.YtdgbililgkhjfaaDoor.Crc Go.Proofs.YtdgbililgkhjfaaDoor.Codec Go.Proofs.YtdgbililgkhjfaaDoor.CrcWalk
set_option linter.unusedVariables false
theorem ws_drew {w : World} {p : Nat} {S : Nat → Prop} {L : List UInt8} (h : Ws w p S L) : Ws w.drew p S L := h
set_option maxRecDepth 100000 in
theorem out_byte (p n : Nat) (a : Addr) (S : Nat → Prop) (L : List UInt8) (w : World) (hn : n < 256) (hL : L.length ≤ 1000000) (hw : Ws w p S L) (hc : w.cell? a = some (.int .u8 n)) :
    Calls Tryd.prog 56 #[.pointer (some ⟨p, 0, none⟩), .pointer (some a)] w fun r w' => r = .returned (.tuple #[]) ∧ Ws w' p S (L ++ leB n 1) ∧ Ks S w w' := by
  go_enter Tryd.func56, Tryd.ntmps56
  go_wp2_with fail
  go_region_with (go_at_call 92; refine (swrite_u8 p n S L _ hn hL (ws_drew hw)).mono ?_; rintro r w1 ⟨rfl, hw1, hk1⟩)
  all_goals go_end0
  all_goals exact ⟨rfl, hw1, (Ks.refl S w).drew.trans hk1⟩
set_option maxRecDepth 100000 in
theorem out_many (p n : Nat) (S : Nat → Prop) (L : List UInt8) (w : World) (hn : n < 256) (hL : L.length ≤ 1000000) (hw : Ws w p S L) :
    Calls Tryd.prog 140 #[.pointer (some ⟨p, 0, none⟩), .int .i64 n] w fun r w' => r = .returned (.int .i64 n) ∧ Ws w' p S (L ++ leB n 1) ∧ Ks S w w' := by
  go_enter Tryd.func140, Tryd.ntmps140
  go_wp2_with fail
  refine (swrite_u8 p n S L _ hn hL hw).mono ?_
  rintro r w1 ⟨rfl, hw1, hk1⟩
  go_wp2
  go_ret
  exact ⟨rfl, hw1, hk1⟩
/-- Numbers of eight bytes, one behind the other. -/
def longsB : List Nat → List UInt8
  | [] => []
  | n :: l => leB n 8 ++ longsB l
theorem longsB_length : ∀ l, (longsB l).length = 8 * l.length
  | [] => rfl
  | n :: l => by simp only [longsB, List.length_append, leB_length, longsB_length l, List.length_cons]; omega
theorem longsB_snoc : ∀ (l : List Nat) (n : Nat), longsB (l ++ [n]) = longsB l ++ leB n 8
  | [], n => by simp [longsB]
  | m :: l, n => by simp only [List.cons_append, longsB, longsB_snoc l n, List.append_assoc]
set_option maxRecDepth 100000 in
theorem out_long (p q g : Nat) (offs vals : List Nat) (S : Nat → Prop) (L : List UInt8) (w : World) (hlen : vals.length = offs.length) (hsm : offs.length ≤ 100) (hn : ∀ i (h : i < vals.length), vals[i] < 18446744073709551616) (hL : L.length ≤ 1000) (hw : Ws w p S L) (hSg : S g) (hSq : S q)
    (hg : ∀ i (h : i < offs.length), w.cell? ⟨g, i, none⟩ = some (.pointer (some ⟨q, offs[i], none⟩))) (hq : ∀ i (h : i < offs.length), w.cell? ⟨q, offs[i], none⟩ = some (.int .u64 (vals[i]'(by omega)))) :
    Calls Tryd.prog 139 #[.pointer (some ⟨p, 0, none⟩), .slice (some ⟨g, 0, none⟩) offs.length offs.length] w fun r w' => r = .returned (.tuple #[]) ∧ Ws w' p S (L ++ longsB vals) ∧ Ks S w w' := by
  have HG := Lib.hid hg
  have HQ := Lib.hid hq
  have HN := Lib.hid hn
  clear hg hq hn
  go_enter Tryd.func139, Tryd.ntmps139
  go_wp2
  go_loopw [5, 8] (fun _ i wr => ∃ k : Nat, k ≤ offs.length ∧ i = .int .i64 k ∧ Ws wr p S (L ++ longsB (vals.take k)) ∧ Ks S w wr) (fun _ i _ => offs.length - (intOf i).toNat)
  case atStart => exact ⟨0, Nat.zero_le _, rfl, by simpa [longsB] using hw, Ks.refl _ _⟩
  case round =>
    obtain ⟨k, hk, rfl, hwk, hkk⟩ := hrel
    by_cases hlt : k < offs.length
    · have hkv : k < vals.length := by omega
      have c1 : wr.cell? ⟨g, k, none⟩ = some (.pointer (some ⟨q, offs[k], none⟩)) := (World.cell?_of_block (hkk.block g hSg)).trans (HG.out k hlt)
      have c2 : wr.cell? ⟨q, offs[k], none⟩ = some (.int .u64 vals[k]) := (World.cell?_of_block (hkk.block q hSq)).trans (HQ.out k hlt)
      have hvk := HN.out k hkv
      have hsn : longsB (vals.take (k + 1)) = longsB (vals.take k) ++ leB vals[k] 8 := by rw [List.take_succ_eq_append_getElem hkv, longsB_snoc]
      have hlen' : (L ++ longsB (vals.take k)).length ≤ 1000000 := by rw [List.length_append, longsB_length, List.length_take]; omega
      generalize vals[k] = x at *
      generalize offs[k] = off at *
      have HS := Lib.hid hsn
      clear hsn
      go_wp2_with fail
      go_region_with (go_at_call 141; refine (swrite_u64 p x S _ _ hvk hlen' (ws_drew hwk)).mono ?_; rintro r w1 ⟨rfl, hw1, hk1⟩)
      all_goals
        have hK := hkk.drew.trans hk1
        have HW1 := Lib.hid hw1
        have HK1 := Lib.hid hK
        clear hw1 hk1 hK hwk hkk c1 c2
        go_wp2
        go_roundw
        case rel => exact ⟨k + 1, by omega, by go_num, by rw [HS.out, ← List.append_assoc]; exact HW1.out, HK1.out⟩
        case measure => simp [intOf]; omega
    · obtain rfl : k = offs.length := by omega
      have hall : vals.take offs.length = vals := List.take_of_length_le (by omega)
      rw [hall] at hwk
      have HW := Lib.hid hwk
      have HK := Lib.hid hkk
      clear hwk hkk hall
      go_wp2
      go_end0
      exact ⟨rfl, HW.out, HK.out⟩
end Go.Proofs.YtdgbililgkhjfaaDoor.Pk
