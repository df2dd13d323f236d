/- The reading methods of the layer packet's pass: each walked. Conditions: the blocks. -/
import Derived.Test.YtdgbililgkhjfaaDoorPkC
namespace Go.Proofs.YtdgbililgkhjfaaDoor.Pk
open Go.RowKit Go.Proofs.YtdgbililgkhjfaaDoor.Crc Go.Proofs.YtdgbililgkhjfaaDoor.Codec Go.Proofs.YtdgbililgkhjfaaDoor.CrcWalk
set_option linter.unusedVariables false
/-- A block of cells. -/
def Blk (W : World) (q : Nat) (cs : Array Value) (t : TypeId) : Prop := W.heap[q]? = some (.cells cs t (0, 0))
/-- Below B, blocks p and q alone may have changed. -/
structure Kq (B p q : Nat) (w w' : World) : Prop where
  os : w'.os = w.os
  tape : w'.tape = w.tape
  output : w'.output = w.output
  size : w.heap.size ≤ w'.heap.size
  block : ∀ k, k < B → k ≠ p → k ≠ q → w'.heap[k]? = w.heap[k]?
theorem Blk.cell {W : World} {q off : Nat} {cs : Array Value} {t : TypeId} (h : Blk W q cs t) (v : Value) (hv : cs[off]? = some v) : W.cell? ⟨q, off, none⟩ = some v := by
  have hb : W.heap[q]? = _ := h
  rw [cell_of_row W q off cs t (0, 0) hb]; exact hv
theorem Blk.free {W : World} {q off : Nat} {cs : Array Value} {t : TypeId} (h : Blk W q cs t) : W.frozen? ⟨q, off, none⟩ = false := by
  simp [World.frozen?, show W.heap[q]? = _ from h]
theorem Blk.set {W : World} {q off : Nat} {cs : Array Value} {t : TypeId} (h : Blk W q cs t) (v : Value) : Blk (W.setCell ⟨q, off, none⟩ v) q (cs.setIfInBounds off v) t := by
  show (W.heap.modify q _)[q]? = _
  rw [Array.getElem?_modify, if_pos rfl, show W.heap[q]? = _ from h]
  rfl
theorem Blk.kp {W W' : World} {B p q : Nat} {cs : Array Value} {t : TypeId} (h : Blk W q cs t) (hk : Kp B p W W') (hq : q < B) (hne : q ≠ p) : Blk W' q cs t := by
  have hb : W.heap[q]? = _ := h
  show W'.heap[q]? = _
  rw [hk.block q hq hne]; exact hb
theorem Blk.lt {W : World} {q : Nat} {cs : Array Value} {t : TypeId} (h : Blk W q cs t) : q < W.heap.size := (Array.getElem?_eq_some_iff.1 h).1
theorem Blk.alloc {W : World} {q : Nat} {cs : Array Value} {t : TypeId} (h : Blk W q cs t) (o : Obj) : Blk (W.alloc o) q cs t := (Below.heap_alloc W o q h.lt).trans h
theorem Rd.alloc {w : World} {p : Nat} {s : ByteArray} {e : Int} (h : Rd w p s e) (o : Obj) : Rd (w.alloc o) p s e := by
  obtain ⟨t, h⟩ := h
  exact ⟨t, (Below.heap_alloc w o p (Array.getElem?_eq_some_iff.1 h).1).trans h⟩
theorem Rd.far {w : World} {p q off : Nat} {s : ByteArray} {e : Int} {v : Value} (h : Rd w p s e) (hne : q ≠ p) : Rd (w.setCell ⟨q, off, none⟩ v) p s e := by
  obtain ⟨t, h⟩ := h
  refine ⟨t, ?_⟩
  show (w.heap.modify q _)[p]? = _
  rw [Array.getElem?_modify, if_neg hne]; exact h
theorem kq_in {w w1 : World} {p q off : Nat} {v : Value} {o : Obj} (hk : Kp (w.alloc o).heap.size p (w.alloc o) w1) : Kq w.heap.size p q w (w1.setCell ⟨q, off, none⟩ v) := by
  have h2 := ((Kp.refl w.heap.size p w).alloc (Nat.le_refl _) o).trans (hk.mono (B' := w.heap.size) (by simp))
  have h3 : (w1.setCell ⟨q, off, none⟩ v).heap.size = w1.heap.size := by show (w1.heap.modify q _).size = _; simp
  refine ⟨h2.os, h2.tape, h2.output, by rw [h3]; exact h2.size, fun k hkB hp hq => ?_⟩
  have : (w1.setCell ⟨q, off, none⟩ v).heap[k]? = w1.heap[k]? := by
    show (w1.heap.modify q _)[k]? = _
    rw [Array.getElem?_modify, if_neg (fun e => hq e.symm)]
  rw [this]; exact h2.block k hkB hp
theorem rd_drew {w : World} {p : Nat} {s : ByteArray} {e : Int} (h : Rd w p s e) : Rd w.drew p s e := h
theorem blk_drew {w : World} {q : Nat} {cs : Array Value} {t : TypeId} (h : Blk w q cs t) : Blk w.drew q cs t := h
theorem Kq.refl (B p q : Nat) (w : World) : Kq B p q w w := ⟨rfl, rfl, rfl, Nat.le_refl _, fun _ _ _ _ => rfl⟩
theorem Kq.trans {B p q : Nat} {a b c : World} (h : Kq B p q a b) (k : Kq B p q b c) : Kq B p q a c :=
  ⟨k.os.trans h.os, k.tape.trans h.tape, k.output.trans h.output, Nat.le_trans h.size k.size, fun i hi hp hq => (k.block i hi hp hq).trans (h.block i hi hp hq)⟩
theorem Kq.mono {B B' p q : Nat} {a b : World} (h : Kq B p q a b) (hB : B' ≤ B) : Kq B' p q a b := ⟨h.os, h.tape, h.output, h.size, fun i hi hp hq => h.block i (by omega) hp hq⟩
theorem Kq.drew {B p q : Nat} {a b : World} (h : Kq B p q a b) : Kq B p q a b.drew := ⟨h.os, h.tape, h.output, h.size, h.block⟩
theorem Kq.of_kp {B p q : Nat} {a b : World} (h : Kp B p a b) (o : Nat) (v : Value) : Kq B p q a (b.setCell ⟨q, o, none⟩ v) := by
  have h3 : (b.setCell ⟨q, o, none⟩ v).heap.size = b.heap.size := by show (b.heap.modify q _).size = _; simp
  refine ⟨h.os, h.tape, h.output, by rw [h3]; exact h.size, fun k hkB hp hq => ?_⟩
  have : (b.setCell ⟨q, o, none⟩ v).heap[k]? = b.heap[k]? := by
    show (b.heap.modify q _)[k]? = _
    rw [Array.getElem?_modify, if_neg (fun e => hq e.symm)]
  rw [this]; exact h.block k hkB hp
theorem tkR_size (k : Nat) (s : ByteArray) (e : Int) : (tkR k s e).size ≤ s.size := by
  unfold tkR
  by_cases h : e = 0
  · rw [if_pos h]
    by_cases h2 : k ≤ s.size
    · rw [if_pos h2, ByteArray.size_extract]; omega
    · rw [if_neg h2]; exact Nat.zero_le _
  · rw [if_neg h]; exact Nat.le_refl _
/-- What a reader gives next, k bytes. -/
def rv (k : Nat) (s : ByteArray) (e : Int) : Nat := V (tkS k s e).data.toList
theorem rv_lt (j : Nat) (s : ByteArray) (e : Int) : rv j s e < 256 ^ j := by
  unfold rv
  refine Nat.lt_of_lt_of_le (V_lt _) ?_
  rw [Nat.pow_mul]
  refine Nat.pow_le_pow_right (by decide) ?_
  unfold tkS
  by_cases h : e = 0
  · rw [if_pos h]
    by_cases h2 : j ≤ s.size
    · rw [if_pos h2]; simp; omega
    · rw [if_neg h2]; exact Nat.zero_le _
  · rw [if_neg h]; exact Nat.zero_le _
set_option maxRecDepth 100000 in
theorem in_byte (p q off : Nat) (cs : Array Value) (t : TypeId) (v0 : Value) (s : ByteArray) (e : Int) (w : World) (hs : s.size ≤ maxLen) (hr : Rd w p s e) (hb : Blk w q cs t) (hv : cs[off]? = some v0) (hne : q ≠ p) :
    Calls Tryd.prog 67 #[.agg #[.pointer (some ⟨p, 0, none⟩)], .pointer (some ⟨q, off, none⟩)] w fun r w' => r = .returned (.tuple #[]) ∧ Rd w' p (tkR 1 s e) (tkE 1 s e) ∧ Blk w' q (cs.setIfInBounds off (.int .u8 (V (tkS 1 s e).data.toList : Nat))) t ∧ Kq w.heap.size p q w w' := by
  go_enter Tryd.func67, Tryd.ntmps67
  go_wp2_with fail
  refine (read_u8 p s e _ hs (Rd.alloc hr _)).mono ?_
  rintro r w1 ⟨rfl, hr1, hk1⟩
  have hb1 := (hb.alloc _).kp hk1 (by have := hb.lt; simp; omega) hne
  have c1 := hb1.cell v0 hv
  have f1 := hb1.free (off := off)
  have hK := kq_in (q := q) (off := off) (v := .int .u8 (V (tkS 1 s e).data.toList : Nat)) hk1
  have HK := Lib.hid hK
  clear hk1 hK
  go_wp2
  go_end0
  exact ⟨rfl, Rd.far hr1 hne, hb1.set _, HK.out⟩
/-- What a reader is left with. -/
abbrev RS := ByteArray × Int
def rdv (j : Nat) (st : RS) : Nat := rv j st.1 st.2
def rdn (j : Nat) (st : RS) : RS := (tkR j st.1 st.2, tkE j st.1 st.2)
theorem rdn_size (j : Nat) (st : RS) : (rdn j st).1.size ≤ st.1.size := tkR_size j st.1 st.2
set_option maxRecDepth 100000 in
theorem in_many (p n : Nat) (s : ByteArray) (e : Int) (w : World) (hs : s.size ≤ maxLen) (hr : Rd w p s e) :
    Calls Tryd.prog 145 #[.agg #[.pointer (some ⟨p, 0, none⟩)], .int .i64 n] w fun r w' => r = .returned (.int .i64 (min (rv 1 s e) 33 : Nat)) ∧ Rd w' p (tkR 1 s e) (tkE 1 s e) ∧ Kp w.heap.size p w w' := by
  have hv : rv 1 s e < 256 := rv_lt 1 s e
  have hread := fun W (h : Rd W p s e) => read_u8 p s e W hs h
  rw [show V (tkS 1 s e).data.toList = rv 1 s e from rfl] at hread
  generalize rv 1 s e = x at *
  obtain ⟨y, hy⟩ : ∃ y, y = min x 33 := ⟨_, rfl⟩
  rw [← hy]
  have HR := Lib.hid hread
  clear hread
  by_cases hx : x ≤ 33
  · have hyx : y = x := by omega
    subst hyx
    clear hy
    go_enter Tryd.func145, Tryd.ntmps145
    go_wp2_with fail
    refine (HR.out _ (Rd.alloc hr _)).mono ?_
    rintro r w1 ⟨rfl, hr1, hk1⟩
    have hK := ((Kp.refl w.heap.size p w).alloc (Nat.le_refl _) (.cells #[.pointer (some ⟨p, 0, none⟩)] 127)).trans (hk1.mono (B' := w.heap.size) (by simp))
    clear hk1
    go_wp2
    go_ret
    exact ⟨rfl, hr1, hK⟩
  · have hyx : y = 33 := by omega
    subst hyx
    have hx2 : 33 < x := by omega
    clear hy
    go_enter Tryd.func145, Tryd.ntmps145
    go_wp2_with fail
    refine (HR.out _ (Rd.alloc hr _)).mono ?_
    rintro r w1 ⟨rfl, hr1, hk1⟩
    have hK := ((Kp.refl w.heap.size p w).alloc (Nat.le_refl _) (.cells #[.pointer (some ⟨p, 0, none⟩)] 127)).trans (hk1.mono (B' := w.heap.size) (by simp))
    clear hk1
    go_wp2
    go_ret
    exact ⟨rfl, hr1, hK⟩
/-- Numbers of eight bytes are read into these places. -/
def longsR : List Nat → Array Value → RS → Array Value × RS
  | [], cs, st => (cs, st)
  | o :: os, cs, st => longsR os (cs.setIfInBounds o (.int .u64 (rdv 8 st : Nat))) (rdn 8 st)
set_option maxRecDepth 100000 in
theorem in_long (p q g : Nat) (offs : List Nat) (cs : Array Value) (t : TypeId) (st : RS) (w : World) (hs : st.1.size ≤ maxLen) (hr : Rd w p st.1 st.2) (hb : Blk w q cs t) (hsm : offs.length ≤ 100) (hin : ∀ o ∈ offs, o < cs.size) (hne : q ≠ p) (hgp : g ≠ p) (hgq : g ≠ q) (hgl : g < w.heap.size)
    (hg : ∀ i (h : i < offs.length), w.cell? ⟨g, i, none⟩ = some (.pointer (some ⟨q, offs[i], none⟩))) :
    Calls Tryd.prog 144 #[.agg #[.pointer (some ⟨p, 0, none⟩)], .slice (some ⟨g, 0, none⟩) offs.length offs.length] w fun r w' => r = .returned (.tuple #[]) ∧ Rd w' p (longsR offs cs st).2.1 (longsR offs cs st).2.2 ∧ Blk w' q (longsR offs cs st).1 t ∧ Kq w.heap.size p q w w' := by
  have HG := Lib.hid hg
  have HI := Lib.hid hin
  obtain ⟨F, hF⟩ : ∃ F, F = longsR offs cs st := ⟨_, rfl⟩
  rw [← hF]
  have HF := Lib.hid hF
  clear hg hin hF
  have hpl : p < w.heap.size := by obtain ⟨t, h⟩ := hr; exact (Array.getElem?_eq_some_iff.1 h).1
  have hql := hb.lt
  go_enter Tryd.func144, Tryd.ntmps144
  go_wp2
  go_loopw [5, 8] (fun _ i wr => ∃ (k : Nat) (ck : Array Value) (sk : RS), k ≤ offs.length ∧ i = .int .i64 k ∧ sk.1.size ≤ maxLen ∧ ck.size = cs.size ∧ longsR (offs.drop k) ck sk = F ∧ Rd wr p sk.1 sk.2 ∧ Blk wr q ck t ∧ wr.cell? ⟨w.heap.size, 0, none⟩ = some (.pointer (some ⟨p, 0, none⟩)) ∧ w.heap.size < wr.heap.size ∧ Kq w.heap.size p q w wr) (fun _ i _ => offs.length - (intOf i).toNat)
  case atStart => exact ⟨0, cs, st, Nat.zero_le _, rfl, hs, rfl, by rw [List.drop_zero]; exact HF.out.symm, Rd.alloc hr _, hb.alloc _, by simp, by simp, ((Kq.refl w.heap.size p q w).trans ⟨rfl, rfl, rfl, by simp, fun k hk _ _ => Below.heap_alloc w _ k hk⟩)⟩
  case round =>
    obtain ⟨k, ck, sk, hk, rfl, hsk, hcz, hF, hrk, hbk, hck, hzk, hqk⟩ := hrel
    by_cases hlt : k < offs.length
    · have c1 : wr.cell? ⟨g, k, none⟩ = some (.pointer (some ⟨q, offs[k], none⟩)) := (World.cell?_of_block (hqk.block g hgl hgp hgq)).trans (HG.out k hlt)
      have ho : offs[k] < ck.size := by rw [hcz]; exact HI.out _ (List.getElem_mem hlt)
      rw [List.drop_eq_getElem_cons hlt] at hF
      have HS := Lib.hid hF
      have c2 : wr.cell? ⟨q, offs[k], none⟩ = some ck[offs[k]] := hbk.cell _ (Array.getElem?_eq_getElem ho)
      have f2 : wr.frozen? ⟨q, offs[k], none⟩ = false := hbk.free
      have hrd := read_u64 p sk.1 sk.2 wr hsk hrk
      have HRD := Lib.hid hrd
      generalize ck[offs[k]] = old at *
      generalize offs[k] = off at *
      clear hF hrd
      go_wp2_with fail
      refine HRD.out.mono ?_
      rintro r w1 ⟨rfl, hr1, hk1⟩
      have hb1 : Blk w1 q ck t := hbk.kp hk1 hbk.lt hne
      have c3 : w1.cell? ⟨q, off, none⟩ = some old := (World.cell?_of_block (hk1.block q hbk.lt hne)).trans c2
      have f3 : w1.frozen? ⟨q, off, none⟩ = false := hb1.free
      have hb2 := hb1.set (off := off) (.int .u64 (rdv 8 sk : Nat))
      have hr2 := Rd.far (off := off) (v := .int .u64 (rdv 8 sk : Nat)) hr1 hne
      have hq2 : Kq w.heap.size p q w (w1.setCell ⟨q, off, none⟩ (.int .u64 (rdv 8 sk : Nat))) := hqk.trans (Kq.of_kp (hk1.mono (by omega)) _ _)
      have hc2 : (w1.setCell ⟨q, off, none⟩ (.int .u64 (rdv 8 sk : Nat))).cell? ⟨w.heap.size, 0, none⟩ = some (.pointer (some ⟨p, 0, none⟩)) := by
        have e1 : w1.cell? ⟨w.heap.size, 0, none⟩ = wr.cell? ⟨w.heap.size, 0, none⟩ := World.cell?_of_block (hk1.block w.heap.size hzk (by omega))
        rw [World.cell?_setCell_far _ _ _ _ (by show q ≠ w.heap.size; omega), e1]; exact hck
      have hz2 : w.heap.size < (w1.setCell ⟨q, off, none⟩ (.int .u64 (rdv 8 sk : Nat))).heap.size := by have := hk1.size; simp [World.setCell]; omega
      have HB2 := Lib.hid hb2
      have HR2 := Lib.hid hr2
      have HQ2 := Lib.hid hq2
      have HC2 := Lib.hid hc2
      have HZ2 := Lib.hid hz2
      clear hb2 hr2 hq2 hc2 hz2 hk1 hb1 hr1 c2 f2 hbk hrk hqk hck hzk
      go_wp2
      go_roundw
      case rel => exact ⟨k + 1, _, rdn 8 sk, by omega, by go_num, Nat.le_trans (rdn_size 8 sk) hsk, by rw [Array.size_setIfInBounds]; exact hcz, HS.out, HR2.out, HB2.out, HC2.out, HZ2.out, HQ2.out⟩
      case measure => simp [intOf]; omega
    · obtain rfl : k = offs.length := by omega
      rw [List.drop_length] at hF
      have e : (ck, sk) = F := hF
      have HE := Lib.hid e
      have HR := Lib.hid hrk
      have HB := Lib.hid hbk
      have HQ := Lib.hid hqk
      clear hF e hrk hbk hqk
      go_wp2
      go_end0
      exact ⟨rfl, by rw [← HE.out]; exact HR.out, by rw [← HE.out]; exact HB.out, HQ.out⟩
end Go.Proofs.YtdgbililgkhjfaaDoor.Pk
