/- The frame of a text, and what bytes begin with: plain words. No conditions. -/
import Derived.Test.YtdgbililgkhjfaaDoorCodec0
namespace Go.Proofs.YtdgbililgkhjfaaDoor.Frame
open Go.RowKit Go.Proofs.YtdgbililgkhjfaaDoor.Crc Go.Proofs.YtdgbililgkhjfaaDoor.Codec
set_option linter.unusedVariables false
/-- What stands ahead of a payload. -/
def fhead (l : List UInt8) : List UInt8 := leB l.length 2 ++ leB (crc 0 (leB l.length 2 ++ l)) 4
/-- A text's frame; nothing, if it is too long. -/
def fput (l : List UInt8) : List UInt8 := if l.length ≤ 4096 then fhead l ++ l else []
def fputE (l : List UInt8) : Int := if l.length ≤ 4096 then 0 else 3
theorem fhead_length (l : List UInt8) : (fhead l).length = 6 := by simp [fhead, leB_length]
theorem fput_length {l : List UInt8} (h : l.length ≤ 4096) : (fput l).length = 6 + l.length := by simp [fput, h, fhead_length]
/-- The first frame of bytes: its payload, how many bytes it takes, the error. -/
def fnP (l : List UInt8) : List UInt8 :=
  if l.length < 6 then [] else if 4096 < V (l.take 2) then [] else if l.length - 6 < V (l.take 2) then []
  else if crc 0 (l.take 2 ++ (l.drop 6).take (V (l.take 2))) = V ((l.drop 2).take 4) then (l.drop 6).take (V (l.take 2)) else []
def fnU (l : List UInt8) : Nat :=
  if l.length < 6 then 0 else if 4096 < V (l.take 2) then 0 else if l.length - 6 < V (l.take 2) then 0
  else if crc 0 (l.take 2 ++ (l.drop 6).take (V (l.take 2))) = V ((l.drop 2).take 4) then 6 + V (l.take 2) else 0
def fnE (l : List UInt8) : Int :=
  if l.length < 6 then 10 else if 4096 < V (l.take 2) then 3 else if l.length - 6 < V (l.take 2) then 10
  else if crc 0 (l.take 2 ++ (l.drop 6).take (V (l.take 2))) = V ((l.drop 2).take 4) then 0 else 9
/-- A frame is read as what was put. -/
theorem fn_fput (l m : List UInt8) (h : l.length ≤ 4096) : fnP (fput l ++ m) = l ∧ fnU (fput l ++ m) = 6 + l.length ∧ fnE (fput l ++ m) = 0 := by
  have e1 : fput l ++ m = leB l.length 2 ++ (leB (crc 0 (leB l.length 2 ++ l)) 4 ++ (l ++ m)) := by simp [fput, h, fhead]
  have hl2 : (leB l.length 2).length = 2 := leB_length 2 _
  have hl4 : (leB (crc 0 (leB l.length 2 ++ l)) 4).length = 4 := leB_length 4 _
  have t2 : (fput l ++ m).take 2 = leB l.length 2 := by rw [e1]; exact List.take_left' hl2
  have d2 : (fput l ++ m).drop 2 = leB (crc 0 (leB l.length 2 ++ l)) 4 ++ (l ++ m) := by rw [e1]; exact List.drop_left' hl2
  have t4 : ((fput l ++ m).drop 2).take 4 = leB (crc 0 (leB l.length 2 ++ l)) 4 := by rw [d2]; exact List.take_left' hl4
  have d6 : (fput l ++ m).drop 6 = l ++ m := by
    rw [show 6 = 2 + 4 from rfl, ← List.drop_drop, d2]; exact List.drop_left' hl4
  have v2 : V (leB l.length 2) = l.length := by rw [leB_V]; exact Nat.mod_eq_of_lt (by omega)
  have v4 : V (leB (crc 0 (leB l.length 2 ++ l)) 4) = crc 0 (leB l.length 2 ++ l) := by
    rw [leB_V]; exact Nat.mod_eq_of_lt (crc_lt (by decide) _)
  have hlen : (fput l ++ m).length = 6 + l.length + m.length := by rw [List.length_append, fput_length h]
  have hc : crc 0 ((fput l ++ m).take 2 ++ ((fput l ++ m).drop 6).take (V ((fput l ++ m).take 2))) = V (((fput l ++ m).drop 2).take 4) := by
    rw [t4, v4, t2, v2, d6, List.take_left]
  have n1 : ¬ (fput l ++ m).length < 6 := by omega
  have n2 : ¬ 4096 < V ((fput l ++ m).take 2) := by rw [t2, v2]; omega
  have n3 : ¬ (fput l ++ m).length - 6 < V ((fput l ++ m).take 2) := by rw [t2, v2]; omega
  refine ⟨?_, ?_, ?_⟩
  · unfold fnP; rw [if_neg n1, if_neg n2, if_neg n3, if_pos hc, t2, v2, d6, List.take_left]
  · unfold fnU; rw [if_neg n1, if_neg n2, if_neg n3, if_pos hc, t2, v2]
  · unfold fnE; rw [if_neg n1, if_neg n2, if_neg n3, if_pos hc]
end Go.Proofs.YtdgbililgkhjfaaDoor.Frame
