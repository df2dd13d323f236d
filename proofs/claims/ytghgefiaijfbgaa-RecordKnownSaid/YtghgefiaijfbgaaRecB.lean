/- The methods of the layer record's pass: each walked. Conditions: the blocks. -/
import Derived.Test.YtghgefiaijfbgaaRecA
import Derived.Deep.RegionWith
namespace Go.Proofs.Ytghgefiaijfbgaa.Rec
open Go.RowKit Go.Proofs.Ytghgefiaijfbgaa.Crc Go.Proofs.Ytghgefiaijfbgaa.Codec
set_option linter.unusedVariables false
/-- A block of cells. -/
def Blk (W : World) (q : Nat) (cs : Array Value) (t : TypeId) : Prop := W.heap[q]? = some (.cells cs t (0, 0))
/-- Below B, blocks p and q alone may have changed. -/
structure Kq (B p q : Nat) (w w' : World) : Prop where
  os : w'.os = w.os
  tape : w'.tape = w.tape
  output : w'.output = w.output
  size : w.heap.size ≤ w'.heap.size
  block : ∀ k, k < B → k ≠ p → k ≠ q → w'.heap[k]? = w.heap[k]?
theorem Blk.cell {W : World} {q off : Nat} {cs : Array Value} {t : TypeId} (h : Blk W q cs t) (v : Value) (hv : cs[off]? = some v) : W.cell? ⟨q, off, none⟩ = some v := by
  have hb : W.heap[q]? = _ := h
  rw [cell_of_row W q off cs t (0, 0) hb]; exact hv
theorem Blk.free {W : World} {q off : Nat} {cs : Array Value} {t : TypeId} (h : Blk W q cs t) : W.frozen? ⟨q, off, none⟩ = false := by
  simp [World.frozen?, show W.heap[q]? = _ from h]
theorem Blk.set {W : World} {q off : Nat} {cs : Array Value} {t : TypeId} (h : Blk W q cs t) (v : Value) : Blk (W.setCell ⟨q, off, none⟩ v) q (cs.setIfInBounds off v) t := by
  show (W.heap.modify q _)[q]? = _
  rw [Array.getElem?_modify, if_pos rfl, show W.heap[q]? = _ from h]
  rfl
theorem Blk.kp {W W' : World} {B p q : Nat} {cs : Array Value} {t : TypeId} (h : Blk W q cs t) (hk : Kp B p W W') (hq : q < B) (hne : q ≠ p) : Blk W' q cs t := by
  have hb : W.heap[q]? = _ := h
  show W'.heap[q]? = _
  rw [hk.block q hq hne]; exact hb
theorem Blk.lt {W : World} {q : Nat} {cs : Array Value} {t : TypeId} (h : Blk W q cs t) : q < W.heap.size := (Array.getElem?_eq_some_iff.1 h).1
theorem Blk.alloc {W : World} {q : Nat} {cs : Array Value} {t : TypeId} (h : Blk W q cs t) (o : Obj) : Blk (W.alloc o) q cs t := (Below.heap_alloc W o q h.lt).trans h
theorem Rd.alloc {w : World} {p : Nat} {s : ByteArray} {e : Int} (h : Rd w p s e) (o : Obj) : Rd (w.alloc o) p s e := by
  obtain ⟨t, h⟩ := h
  exact ⟨t, (Below.heap_alloc w o p (Array.getElem?_eq_some_iff.1 h).1).trans h⟩
theorem Rd.far {w : World} {p q off : Nat} {s : ByteArray} {e : Int} {v : Value} (h : Rd w p s e) (hne : q ≠ p) : Rd (w.setCell ⟨q, off, none⟩ v) p s e := by
  obtain ⟨t, h⟩ := h
  refine ⟨t, ?_⟩
  show (w.heap.modify q _)[p]? = _
  rw [Array.getElem?_modify, if_neg hne]; exact h
theorem kq_in {w w1 : World} {p q off : Nat} {v : Value} {o : Obj} (hk : Kp (w.alloc o).heap.size p (w.alloc o) w1) : Kq w.heap.size p q w (w1.setCell ⟨q, off, none⟩ v) := by
  have h2 := ((Kp.refl w.heap.size p w).alloc (Nat.le_refl _) o).trans (hk.mono (B' := w.heap.size) (by simp))
  have h3 : (w1.setCell ⟨q, off, none⟩ v).heap.size = w1.heap.size := by show (w1.heap.modify q _).size = _; simp
  refine ⟨h2.os, h2.tape, h2.output, by rw [h3]; exact h2.size, fun k hkB hp hq => ?_⟩
  have : (w1.setCell ⟨q, off, none⟩ v).heap[k]? = w1.heap[k]? := by
    show (w1.heap.modify q _)[k]? = _
    rw [Array.getElem?_modify, if_neg (fun e => hq e.symm)]
  rw [this]; exact h2.block k hkB hp
set_option maxRecDepth 100000 in
theorem inbyte_any (p q off : Nat) (cs : Array Value) (t : TypeId) (v0 : Value) (s : ByteArray) (e : Int) (w : World) (hs : s.size ≤ maxLen) (hr : Rd w p s e) (hb : Blk w q cs t) (hv : cs[off]? = some v0) (hne : q ≠ p) :
    Calls Try.prog 23 #[.agg #[.pointer (some ⟨p, 0, none⟩)], .pointer (some ⟨q, off, none⟩)] w fun r w' => r = .returned (.tuple #[]) ∧ Rd w' p (tkR 1 s e) (tkE 1 s e) ∧ Blk w' q (cs.setIfInBounds off (.int .u8 (V (tkS 1 s e).data.toList : Nat))) t ∧ Kq w.heap.size p q w w' := by
  go_enter Try.func23, Try.ntmps23
  go_wp2_with fail
  refine (read_u8 p s e _ hs (Rd.alloc hr _)).mono ?_
  rintro r w1 ⟨rfl, hr1, hk1⟩
  have hb1 := (hb.alloc _).kp hk1 (by have := hb.lt; simp; omega) hne
  have c1 := hb1.cell v0 hv
  have f1 := hb1.free (off := off)
  have hK := kq_in (q := q) (off := off) (v := .int .u8 (V (tkS 1 s e).data.toList : Nat)) hk1
  have HK := Lib.hid hK
  clear hk1 hK
  go_wp2
  go_end0
  exact ⟨rfl, Rd.far hr1 hne, hb1.set _, HK.out⟩
set_option maxRecDepth 100000 in
theorem inlong_any (p q off : Nat) (cs : Array Value) (t : TypeId) (v0 : Value) (s : ByteArray) (e : Int) (w : World) (hs : s.size ≤ maxLen) (hr : Rd w p s e) (hb : Blk w q cs t) (hv : cs[off]? = some v0) (hne : q ≠ p) :
    Calls Try.prog 55 #[.agg #[.pointer (some ⟨p, 0, none⟩)], .pointer (some ⟨q, off, none⟩)] w fun r w' => r = .returned (.tuple #[]) ∧ Rd w' p (tkR 8 s e) (tkE 8 s e) ∧ Blk w' q (cs.setIfInBounds off (.int .u64 (V (tkS 8 s e).data.toList : Nat))) t ∧ Kq w.heap.size p q w w' := by
  go_enter Try.func55, Try.ntmps55
  go_wp2_with fail
  refine (read_u64 p s e _ hs (Rd.alloc hr _)).mono ?_
  rintro r w1 ⟨rfl, hr1, hk1⟩
  have hb1 := (hb.alloc _).kp hk1 (by have := hb.lt; simp; omega) hne
  have c1 := hb1.cell v0 hv
  have f1 := hb1.free (off := off)
  have hK := kq_in (q := q) (off := off) (v := .int .u64 (V (tkS 8 s e).data.toList : Nat)) hk1
  have HK := Lib.hid hK
  clear hk1 hK
  go_wp2
  go_end0
  exact ⟨rfl, Rd.far hr1 hne, hb1.set _, HK.out⟩
theorem wr_drew {w : World} {p B : Nat} {L : List UInt8} (h : Wr w p B L) : Wr w.drew p B L := h
set_option maxRecDepth 100000 in
theorem outbyte_any (p B q off n : Nat) (L : List UInt8) (w : World) (hn : n < 256) (hL : L.length ≤ 1000000) (hw : Wr w p B L) (hc : w.cell? ⟨q, off, none⟩ = some (.int .u8 n)) :
    Calls Try.prog 16 #[.pointer (some ⟨p, 0, none⟩), .pointer (some ⟨q, off, none⟩)] w fun r w' => r = .returned (.tuple #[]) ∧ Wr w' p B (L ++ leB n 1) ∧ Kp B p w w' := by
  go_enter Try.func16, Try.ntmps16
  go_wp2_with fail
  go_region_with (go_at_call 29; refine (write_u8 p B n L _ hn hL (wr_drew hw)).mono ?_; rintro r w1 ⟨rfl, hw1, hk1⟩)
  all_goals go_end0
  all_goals exact ⟨rfl, hw1, (Kp.refl B p w).drew.trans hk1⟩
set_option maxRecDepth 100000 in
theorem outlong_any (p B q off n : Nat) (L : List UInt8) (w : World) (hn : n < 18446744073709551616) (hL : L.length ≤ 1000000) (hw : Wr w p B L) (hc : w.cell? ⟨q, off, none⟩ = some (.int .u64 n)) :
    Calls Try.prog 51 #[.pointer (some ⟨p, 0, none⟩), .pointer (some ⟨q, off, none⟩)] w fun r w' => r = .returned (.tuple #[]) ∧ Wr w' p B (L ++ leB n 8) ∧ Kp B p w w' := by
  go_enter Try.func51, Try.ntmps51
  go_wp2_with fail
  go_region_with (go_at_call 52; refine (write_u64 p B n L _ hn hL (wr_drew hw)).mono ?_; rintro r w1 ⟨rfl, hw1, hk1⟩)
  all_goals go_end0
  all_goals exact ⟨rfl, hw1, (Kp.refl B p w).drew.trans hk1⟩
end Go.Proofs.Ytghgefiaijfbgaa.Rec
