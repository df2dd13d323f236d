/- The two passes fulfil the contract of a pass. Conditions: the blocks. -/
import Derived.Test.YtdgbililgkhjfaaDoorPkL
namespace Go.Proofs.YtdgbililgkhjfaaDoor.Pk
open Go.RowKit Go.Proofs.YtdgbililgkhjfaaDoor.Crc Go.Proofs.YtdgbililgkhjfaaDoor.Codec Go.Proofs.YtdgbililgkhjfaaDoor.CrcWalk
set_option linter.unusedVariables false
theorem nilOL (a : Addr) (w : World) : (nilAhead 310 107 (.pointer (some a)) "hindcast/packet.long").run Tryd.prog w = .ok (some false) w := by kernel_rfl
theorem metOL (a : Addr) (w : World) : (method 310 107 (.pointer (some a)) "hindcast/packet.long").run Tryd.prog w = .ok (139, .pointer (some a)) w := by kernel_rfl
theorem nilOB (a : Addr) (w : World) : (nilAhead 310 107 (.pointer (some a)) "hindcast/packet.byte").run Tryd.prog w = .ok (some false) w := by kernel_rfl
theorem metOB (a : Addr) (w : World) : (method 310 107 (.pointer (some a)) "hindcast/packet.byte").run Tryd.prog w = .ok (56, .pointer (some a)) w := by kernel_rfl
theorem nilOM (a : Addr) (w : World) : (nilAhead 310 107 (.pointer (some a)) "hindcast/packet.many").run Tryd.prog w = .ok (some false) w := by kernel_rfl
theorem metOM (a : Addr) (w : World) : (method 310 107 (.pointer (some a)) "hindcast/packet.many").run Tryd.prog w = .ok (140, .pointer (some a)) w := by kernel_rfl
theorem nilIL (a : Addr) (w : World) : (nilAhead 310 127 (.agg #[.pointer (some a)]) "hindcast/packet.long").run Tryd.prog w = .ok (some false) w := by kernel_rfl
theorem metIL (a : Addr) (w : World) : (method 310 127 (.agg #[.pointer (some a)]) "hindcast/packet.long").run Tryd.prog w = .ok (144, .agg #[.pointer (some a)]) w := by kernel_rfl
theorem nilIB (a : Addr) (w : World) : (nilAhead 310 127 (.agg #[.pointer (some a)]) "hindcast/packet.byte").run Tryd.prog w = .ok (some false) w := by kernel_rfl
theorem metIB (a : Addr) (w : World) : (method 310 127 (.agg #[.pointer (some a)]) "hindcast/packet.byte").run Tryd.prog w = .ok (67, .agg #[.pointer (some a)]) w := by kernel_rfl
theorem nilIM (a : Addr) (w : World) : (nilAhead 310 127 (.agg #[.pointer (some a)]) "hindcast/packet.many").run Tryd.prog w = .ok (some false) w := by kernel_rfl
theorem metIM (a : Addr) (w : World) : (method 310 127 (.agg #[.pointer (some a)]) "hindcast/packet.many").run Tryd.prog w = .ok (145, .agg #[.pointer (some a)]) w := by kernel_rfl
theorem set_same {cs : Array Value} {o : Nat} {v : Value} (h : cs[o]? = some v) : cs.setIfInBounds o v = cs := by
  apply Array.ext_getElem?
  intro i
  rw [Array.getElem?_setIfInBounds]
  by_cases hi : o = i
  · subst hi
    have hlt : o < cs.size := (Array.getElem?_eq_some_iff.1 h).1
    rw [h]
    simp [hlt]
  · rw [if_neg hi]
theorem setAll_same : ∀ (offs vals : List Nat) (cs : Array Value), (∀ i (h : i < offs.length) (h' : i < vals.length), cs[offs[i]]? = some (.int .u64 vals[i])) → setAll cs offs vals = cs
  | [], _, cs, _ => by cases ‹List Nat› <;> rfl
  | o :: os, [], cs, _ => rfl
  | o :: os, v :: vs, cs, h => by
    have h0 : cs[o]? = some (.int .u64 v) := h 0 (by simp) (by simp)
    unfold setAll
    rw [set_same h0]
    exact setAll_same os vs cs fun i hi hi' => h (i + 1) (by simpa using hi) (by simpa using hi')
theorem ls_O : ∀ (vals : List Nat) (st : List UInt8), psO.ls st vals = (vals, st ++ longsB vals)
  | [], st => by simp [Ps.ls, longsB]
  | v :: vs, st => by
    unfold Ps.ls
    rw [ls_O vs]
    simp [psO, longsB]
theorem ls_I : ∀ (offs vals : List Nat) (cs : Array Value) (st : RS), vals.length = offs.length → longsR offs cs st = (setAll cs offs (psI.ls st vals).1, (psI.ls st vals).2)
  | [], [], cs, st, _ => rfl
  | o :: os, [], cs, st, h => by simp at h
  | [], v :: vs, cs, st, h => by simp at h
  | o :: os, v :: vs, cs, st, h => by
    unfold longsR Ps.ls setAll
    rw [ls_I os vs _ _ (by simpa using h)]
    rfl
theorem Ws.far {w : World} {p q o : Nat} {u : Value} {S : Nat → Prop} {L : List UInt8} (h : Ws w p S L) (hq : S q) : Ws (w.setCell ⟨q, o, none⟩ u) p S L := by
  obtain ⟨v, t, hc, ho, hp, hS⟩ := h
  have hm : ∀ k, k ≠ q → (w.setCell ⟨q, o, none⟩ u).heap[k]? = w.heap[k]? := fun k hk => by
    show (w.heap.modify q _)[k]? = _
    rw [Array.getElem?_modify, if_neg (fun e => hk e.symm)]
  obtain ⟨_, hqp, hqv⟩ := hS q hq
  refine ⟨v, t, (hm p (fun e => hqp e.symm)).trans hc, ⟨ho.1, ?_⟩, hp, fun k hk => ⟨by simpa [World.setCell] using (hS k hk).1, (hS k hk).2⟩⟩
  rcases ho.2 with h5 | ⟨g, cap, cur, e, hb1, hg, hrest⟩
  · exact .inl h5
  · refine .inr ⟨g, cap, cur, e, hb1, (hm g (fun e' => hqv ?_)).trans hg, hrest⟩
    rw [e, e']; rfl
/-- A slice of pointers into a block, made a moment ago, is handed to a writer's long. -/
theorem out_longs (p q : Nat) (offs vals : List Nat) (cs : Array Value) (t pt : TypeId) (S : Nat → Prop) (L : List UInt8) (w1 W : World) (hlen : vals.length = offs.length) (hsm : offs.length ≤ 100) (hn : ∀ i (h : i < vals.length), vals[i] < 18446744073709551616) (hL : L.length ≤ 1000)
    (hw : Ws w1 p S L) (hSq : S q) (hb : Blk w1 q cs t) (hcs : ∀ i (h : i < offs.length), cs[offs[i]]? = some (.int .u64 (vals[i]'(by omega)))) (hB : Below w1.heap.size w1 W) (hg : W.heap[w1.heap.size]? = some (.cells (offs.map fun o => Value.pointer (some ⟨q, o, none⟩)).toArray pt (0, 0))) :
    Calls Tryd.prog 139 #[.pointer (some ⟨p, 0, none⟩), .slice (some ⟨w1.heap.size, 0, none⟩) offs.length offs.length] W fun r w' => r = .returned (.tuple #[]) ∧ Ws w' p S (L ++ longsB vals) ∧ Ks S w1 w' := by
  have hgl := lt_of_block hg
  have hbW : Blk W q cs t := (hB.block _ hb.lt).trans hb
  have hwW : Ws W p (fun k => S k ∨ k = w1.heap.size) L := hw.more hB _ fun k hk => by
    rcases hk with h | h
    · exact .inl h
    · exact .inr ⟨by omega, by omega⟩
  have hK0 : Ks S w1 W := Ks.of_below hB fun k hk => by obtain ⟨_, _, _, _, _, h⟩ := hw; exact (h k hk).1
  refine (out_long p q w1.heap.size offs vals _ L W hlen hsm hn hL hwW (.inr rfl) (.inl hSq) (fun i h => ?_) (fun i h => hbW.cell _ (hcs i h))).mono fun r w' ⟨h1, h2, h3⟩ => ⟨h1, ?_, hK0.trans (h3.mono fun k hk => .inl hk)⟩
  · rw [cell_of_row W _ i _ _ _ hg]
    simp [h]
  · obtain ⟨v, t', hc, ho, hp, hS⟩ := h2
    exact ⟨v, t', hc, ho, hp, fun k hk => hS k (.inl hk)⟩
theorem sK {S : Nat → Prop} {w w' : World} {q : Nat} {cs : Array Value} {t : TypeId} (h : Ks S w w') (hq : S q) (hb : Blk w q cs t) : Blk w' q cs t := (h.block q hq).trans hb
/-- A writer. -/
theorem passO (p : Nat) : Pass psO (fun S st w => Ws w p S st) (fun st n => st.length + n ≤ 1000) 107 (.pointer (some ⟨p, 0, none⟩)) 56 139 140 where
  nb := nilOB _
  mb := metOB _
  nl := nilOL _
  ml := metOL _
  nm := nilOM _
  mm := metOM _
  more := fun h hb hS => Ws.more h hb _ hS
  lt := fun h hk => by obtain ⟨_, _, _, _, _, h⟩ := h; exact (h _ hk).1
  far := fun h hq => Ws.far h hq
  rmono := fun h hk => by omega
  rb := fun v h => by show (_ ++ leB v 1).length + _ ≤ 1000; rw [List.length_append, leB_length]; omega
  rl := fun v h => by show (_ ++ leB v 8).length + _ ≤ 1000; rw [List.length_append, leB_length]; omega
  rM := fun v h => by show (_ ++ leB v 1).length + _ ≤ 1000; rw [List.length_append, leB_length]; omega
  bl := fun h => h
  ll := fun h => h
  mlt := fun h => h
  byte := fun {S st w n q off cs t} hI hr hq hb hc hn => (out_byte p n ⟨q, off, none⟩ S st w hn (by omega) hI (hb.cell _ hc)).mono fun r w' hh => ⟨hh.1, hh.2.1, by
    show Blk w' q (cs.setIfInBounds off (.int .u8 n)) t
    rw [set_same hc]; exact sK hh.2.2 hq hb, hh.2.2.mono fun _ hj => hj.1⟩
  many := fun {S st w n} hI hr hn => (out_many p n S st w hn (by omega) hI).mono fun r w' hh => ⟨hh.1, hh.2.1, hh.2.2⟩
  long := fun {S st w W q offs vals cs t pt} hI hr hq hb hlen hsm hn hcs hB hg => (out_longs p q offs vals cs t pt S st w W hlen hsm hn (by omega) hI hq hb (fun i h => hcs i h (by omega)) hB hg).mono fun r w' hh => by
    rw [ls_O]
    refine ⟨hh.1, hh.2.1, ?_, hh.2.2.mono fun _ hj => hj.1⟩
    rw [setAll_same offs vals cs hcs]; exact sK hh.2.2 hq hb
theorem ks_kq {S : Nat → Prop} {p q : Nat} {w w' : World} (h : Kq w.heap.size p q w w') (hS : ∀ k, S k → k < w.heap.size ∧ k ≠ p) : Ks (fun j => S j ∧ j ≠ q) w w' :=
  ⟨h.os, h.tape, h.output, h.size, fun k hk => h.block k (hS k hk.1).1 (hS k hk.1).2 hk.2⟩
theorem ks_kp {S : Nat → Prop} {p : Nat} {w w' : World} (h : Kp w.heap.size p w w') (hS : ∀ k, S k → k < w.heap.size ∧ k ≠ p) : Ks S w w' :=
  ⟨h.os, h.tape, h.output, h.size, fun k hk => h.block k (hS k hk).1 (hS k hk).2⟩
theorem Rd.lt {w : World} {p : Nat} {s : ByteArray} {e : Int} (h : Rd w p s e) : p < w.heap.size := by obtain ⟨t, h⟩ := h; exact (Array.getElem?_eq_some_iff.1 h).1
theorem Rd.below {w w' : World} {p : Nat} {s : ByteArray} {e : Int} (h : Rd w p s e) (hb : Below w.heap.size w w') : Rd w' p s e := by
  have hl := Rd.lt h
  obtain ⟨t, h⟩ := h
  exact ⟨t, (hb.block p hl).trans h⟩
/-- A reader. -/
theorem passI (p : Nat) : Pass psI (fun S st w => Rd w p st.1 st.2 ∧ ∀ k, S k → k < w.heap.size ∧ k ≠ p) (fun st _ => st.1.size ≤ maxLen) 127 (.agg #[.pointer (some ⟨p, 0, none⟩)]) 67 144 145 where
  nb := nilIB _
  mb := metIB _
  nl := nilIL _
  ml := metIL _
  nm := nilIM _
  mm := metIM _
  more := fun {S S' st w w'} h hb hS => ⟨Rd.below h.1 hb, fun k hk => by
    have hl := Rd.lt h.1
    rcases hS k hk with h1 | h1
    · exact ⟨Nat.lt_of_lt_of_le (h.2 k h1).1 hb.size, (h.2 k h1).2⟩
    · exact ⟨h1.2, by omega⟩⟩
  lt := fun h hk => (h.2 _ hk).1
  far := fun h hq => ⟨Rd.far h.1 (h.2 _ hq).2, fun k hk => ⟨by simpa [World.setCell] using (h.2 k hk).1, (h.2 k hk).2⟩⟩
  rmono := fun h _ => h
  rb := fun v h => Nat.le_trans (rdn_size 1 _) h
  rl := fun v h => Nat.le_trans (rdn_size 8 _) h
  rM := fun v h => Nat.le_trans (rdn_size 1 _) h
  bl := fun _ => rv_lt 1 _ _
  ll := fun _ => rv_lt 8 _ _
  mlt := fun _ => by show min _ 33 < 256; omega
  byte := fun {S st w n q off cs t} hI hr hq hb hc hn => (in_byte p q off cs t _ st.1 st.2 w hr hI.1 hb hc (hI.2 q hq).2).mono fun r w' hh => ⟨hh.1, ⟨hh.2.1, fun k hk => ⟨Nat.lt_of_lt_of_le (hI.2 k hk).1 hh.2.2.2.size, (hI.2 k hk).2⟩⟩, hh.2.2.1, ks_kq hh.2.2.2 hI.2⟩
  many := fun {S st w n} hI hr hn => (in_many p n st.1 st.2 w hr hI.1).mono fun r w' hh => ⟨hh.1, ⟨hh.2.1, fun k hk => ⟨Nat.lt_of_lt_of_le (hI.2 k hk).1 hh.2.2.size, (hI.2 k hk).2⟩⟩, ks_kp hh.2.2 hI.2⟩
  long := fun {S st w W q offs vals cs t pt} hI hr hq hb hlen hsm hn hcs hB hg => by
    have hpl := Rd.lt hI.1
    have hql := hb.lt
    refine (in_long p q w.heap.size offs cs t st W hr (Rd.below hI.1 hB) ((hB.block q hql).trans hb) hsm (fun o ho => ?_) (hI.2 q hq).2 (by omega) (by omega) (lt_of_block hg) (fun i h => ?_)).mono fun r w' hh => ?_
    · obtain ⟨i, hi, rfl⟩ := List.getElem_of_mem ho
      exact (Array.getElem?_eq_some_iff.1 (hcs i hi (by omega))).1
    · rw [cell_of_row W _ i _ _ _ hg]
      simp [h]
    · rw [ls_I offs vals cs st hlen] at hh
      have hK : Ks (fun j => S j ∧ j ≠ q) w w' := (Ks.of_below (S := fun j => S j ∧ j ≠ q) hB fun k hk => (hI.2 k hk.1).1).trans ⟨hh.2.2.2.os, hh.2.2.2.tape, hh.2.2.2.output, hh.2.2.2.size, fun k hk => hh.2.2.2.block k (Nat.lt_of_lt_of_le (hI.2 k hk.1).1 hB.size) (hI.2 k hk.1).2 hk.2⟩
      exact ⟨hh.1, ⟨hh.2.1, fun k hk => ⟨Nat.lt_of_lt_of_le (hI.2 k hk).1 hK.size, (hI.2 k hk).2⟩⟩, hh.2.2.1, hK⟩
end Go.Proofs.YtdgbililgkhjfaaDoor.Pk
