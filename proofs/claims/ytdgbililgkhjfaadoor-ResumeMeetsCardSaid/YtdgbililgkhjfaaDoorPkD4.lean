/- Words for the document's Payload. No conditions. -/
import Derived.Test.YtdgbililgkhjfaaDoorPkD3
import Derived.Test.YtdgbililgkhjfaaDoorDrawG
namespace Go.Proofs.YtdgbililgkhjfaaDoor.Pk
open Go.RowKit Go.Proofs.YtdgbililgkhjfaaDoor.Crc Go.Proofs.YtdgbililgkhjfaaDoor.Codec Go.Proofs.YtdgbililgkhjfaaDoor.Frame
set_option linter.unusedVariables false
theorem bcell {W w1 : World} (hb : Below W.heap.size W w1) : (∀ b o, b < W.heap.size → w1.cell? ⟨b, o, none⟩ = W.cell? ⟨b, o, none⟩) ∧ (∀ b o, b < W.heap.size → w1.frozen? ⟨b, o, none⟩ = W.frozen? ⟨b, o, none⟩) :=
  ⟨fun b o h => hb.cell (p := ⟨b, o, none⟩) h, fun b o h => hb.frozen (p := ⟨b, o, none⟩) h⟩
theorem conv1 (n : Nat) (hn : n < 256) (W : World) (g : Nat) (hc : W.cell? ⟨g, 0, none⟩ = some (.int .u8 n)) :
    (convert 47 9 (.slice (some ⟨g, 0, none⟩) 1 1)).run Tryd.prog W = .ok (.string (bs [UInt8.ofNat n])) W := by
  have hr := run_convert_bytes_arg W 47 5 Tryd.underlying47 Tryd.underlying5 g 0 1 1 [(n : Int)] rfl (fun i hi => by
    obtain rfl : i = 0 := by omega
    exact hc) 9 Tryd.underlying9
  rw [hr]
  congr 2
theorem bs_app (l m : List UInt8) : bs l ++ bs m = bs (l ++ m) := by
  apply ByteArray.ext
  simp [bs]
/-- What a drawn region keeps: the record's block, and all below. -/
structure Hold (w : World) (k : K) (vi vp : Value) (W : World) : Prop where
  blk : Blk W w.heap.size (pc k vi vp) 34
  bel : Below w.heap.size w W
theorem Hold.call {w W W' : World} {k : K} {vi vp : Value} (h : Hold w k vi vp W) (hb : Below W.heap.size W W') : Hold w k vi vp W' :=
  ⟨(hb.block _ h.blk.lt).trans h.blk, h.bel.trans (hb.mono (Nat.le_of_lt h.blk.lt))⟩
theorem bel_alloc (W : World) (o : Obj) : Below W.heap.size W (W.alloc o) := (Below.refl _ W).alloc (Nat.le_refl _) o
/-- A row of n bytes of its own. -/
def Row1 (L : List UInt8) (W : World) (v : Value) : Prop := ∃ g, v = .slice (some ⟨g, 0, none⟩) L.length L.length ∧ Blk W g (L.map bc).toArray 5
theorem conv_row {W : World} {g : Nat} {L : List UInt8} (hl : L.length ≤ maxLen) (hb : Blk W g (L.map bc).toArray 5) :
    (convert 47 9 (.slice (some ⟨g, 0, none⟩) L.length L.length)).run Tryd.prog W = .ok (.string (bs L)) W :=
  own_conv (B := g) (n := L.length) ⟨by simp, .inr ⟨g, L.length, (L.map bc).toArray, rfl, Nat.le_refl _, hb, Nat.le_refl _, hl, by simp, by simp only [Nat.mul_one]; exact List.take_of_length_le (by simp)⟩⟩
theorem Row1.conv {L : List UInt8} {W : World} {v : Value} (hl : L.length ≤ maxLen) (h : Row1 L W v) : (convert 47 9 v).run Tryd.prog W = .ok (.string (bs L)) W := by
  obtain ⟨g, rfl, hb⟩ := h
  exact conv_row hl hb
theorem Row1.call {L : List UInt8} {W W' : World} {v : Value} (h : Row1 L W v) (hb : Below W.heap.size W W') : Row1 L W' v := by
  obtain ⟨g, h1, h2⟩ := h
  exact ⟨g, h1, (hb.block _ h2.lt).trans h2⟩
theorem leB_one {n : Nat} (h : n < 256) : leB n 1 = [UInt8.ofNat n] := by
  rw [leB, Nat.mod_eq_of_lt h]; rfl
end Go.Proofs.YtdgbililgkhjfaaDoor.Pk
