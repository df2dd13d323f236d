/- A writer whose row is apart from a set of blocks: what the codec's put does to it: walked. Condition: the writer's block. -/
import Derived.Test.YtdgbililgkhjfaaDoorFrameC
namespace Go.Proofs.YtdgbililgkhjfaaDoor.Codec
open Go.RowKit Go.Proofs.YtdgbililgkhjfaaDoor.Crc
set_option linter.unusedVariables false
/-- A writer: its block p holds a row of bytes, in none of the blocks S. -/
def Ws (w : World) (p : Nat) (S : Nat → Prop) (L : List UInt8) : Prop := ∃ v t, w.heap[p]? = some (.cells #[v] t (0, 0)) ∧ w.ownsRow 0 5 1 v L.length (L.map bc) ∧ v.ownBlock ≠ some p ∧ ∀ k, S k → k < w.heap.size ∧ k ≠ p ∧ v.ownBlock ≠ some k
/-- The blocks S are as they were. -/
structure Ks (S : Nat → Prop) (w w' : World) : Prop where
  os : w'.os = w.os
  tape : w'.tape = w.tape
  output : w'.output = w.output
  size : w.heap.size ≤ w'.heap.size
  block : ∀ k, S k → w'.heap[k]? = w.heap[k]?
theorem Ks.refl (S : Nat → Prop) (w : World) : Ks S w w := ⟨rfl, rfl, rfl, Nat.le_refl _, fun _ _ => rfl⟩
theorem Ks.trans {S : Nat → Prop} {a b c : World} (h : Ks S a b) (k : Ks S b c) : Ks S a c :=
  ⟨k.os.trans h.os, k.tape.trans h.tape, k.output.trans h.output, Nat.le_trans h.size k.size, fun i hi => (k.block i hi).trans (h.block i hi)⟩
theorem Ks.mono {S S' : Nat → Prop} {a b : World} (h : Ks S a b) (hS : ∀ k, S' k → S k) : Ks S' a b := ⟨h.os, h.tape, h.output, h.size, fun i hi => h.block i (hS i hi)⟩
theorem Ks.drew {S : Nat → Prop} {a w : World} (h : Ks S a w) : Ks S a w.drew := ⟨h.os, h.tape, h.output, h.size, h.block⟩
theorem Ks.of_below {S : Nat → Prop} {w w' : World} (h : Below w.heap.size w w') (hS : ∀ k, S k → k < w.heap.size) : Ks S w w' := ⟨h.os, h.tape, h.output, h.size, fun k hk => h.block k (hS k hk)⟩
theorem Ks.below {B : Nat} {w w' : World} {S : Nat → Prop} (h : Ks S w w') (hS : ∀ k, k < B → S k) : Below B w w' := ⟨h.os, h.tape, h.output, h.size, fun k hk => h.block k (hS k hk)⟩
theorem Ws.keep {w w' : World} {p : Nat} {S : Nat → Prop} {L : List UInt8} (h : Ws w p S L) (hb : Below w.heap.size w w') : Ws w' p S L := by
  obtain ⟨v, t, hc, ho, hp, hS⟩ := h
  refine ⟨v, t, (hb.block p (lt_of_block hc)).trans hc, ⟨ho.1, ?_⟩, hp, fun k hk => ⟨Nat.lt_of_lt_of_le (hS k hk).1 hb.size, (hS k hk).2⟩⟩
  rcases ho.2 with h5 | ⟨g, cap, cur, e, hb1, hg, hrest⟩
  · exact .inl h5
  · exact .inr ⟨g, cap, cur, e, hb1, (hb.block g (lt_of_block hg)).trans hg, hrest⟩
/-- A block that has come since is kept, too. -/
theorem Ws.more {w w' : World} {p : Nat} {S : Nat → Prop} {L : List UInt8} (h : Ws w p S L) (hb : Below w.heap.size w w') (S' : Nat → Prop) (hS' : ∀ k, S' k → S k ∨ (w.heap.size ≤ k ∧ k < w'.heap.size)) : Ws w' p S' L := by
  obtain ⟨v, t, hc, ho, hp, hS⟩ := h
  have hk := Ws.keep ⟨v, t, hc, ho, hp, hS⟩ hb
  have hlp := lt_of_block hc
  refine ⟨v, t, (hb.block p hlp).trans hc, ?_, hp, fun k hk => ?_⟩
  · refine ⟨ho.1, ?_⟩
    rcases ho.2 with h5 | ⟨g, cap, cur, e, hb1, hg, hrest⟩
    · exact .inl h5
    · exact .inr ⟨g, cap, cur, e, hb1, (hb.block g (lt_of_block hg)).trans hg, hrest⟩
  · rcases hS' k hk with h1 | ⟨h1, h2⟩
    · exact ⟨Nat.lt_of_lt_of_le (hS k h1).1 hb.size, (hS k h1).2⟩
    · refine ⟨h2, by omega, fun e => ?_⟩
      have := (ho.lt k e).2
      omega
theorem Ws.wr {w : World} {p B : Nat} {S : Nat → Prop} {L : List UInt8} (h : Ws w p S L) : ∃ v t, w.heap[p]? = some (.cells #[v] t (0, 0)) ∧ w.ownsRow 0 5 1 v L.length (L.map bc) := by
  obtain ⟨v, t, hc, ho, _⟩ := h
  exact ⟨v, t, hc, ho⟩
theorem Ws.nil {w : World} {p : Nat} {t : TypeId} {S : Nat → Prop} (h : w.heap[p]? = some (.cells #[.slice none 0 0] t (0, 0))) (hS : ∀ k, S k → k < w.heap.size ∧ k ≠ p) : Ws w p S [] :=
  ⟨_, t, h, World.ownsRow_nil w 0 5 1, (fun e => by cases e), fun k hk => ⟨(hS k hk).1, (hS k hk).2, (fun e => by cases e)⟩⟩
theorem ws_new {wr w1 : World} {p g cap n : Nat} {v : Value} {t : TypeId} {o : Obj} {S : Nat → Prop} (hvp : v.ownBlock ≠ some p) (hS : ∀ k, S k → k < wr.heap.size ∧ k ≠ p ∧ v.ownBlock ≠ some k) (hc : wr.heap[p]? = some (.cells #[v] t (0, 0)))
    (hat : v.ownBlock = some g ∨ g = wr.heap.size + 1) (hgrow : (wr.alloc o).drew.grownBy w1 v.ownBlock) (hlt : g < w1.heap.size) : (Value.slice (some ⟨g, 0, none⟩) n cap).ownBlock ≠ some p ∧ ∀ k, S k → k < w1.heap.size ∧ k ≠ p ∧ (Value.slice (some ⟨g, 0, none⟩) n cap).ownBlock ≠ some k := by
  have hlp := lt_of_block hc
  have hsz := hgrow.size
  simp at hsz
  have e : (Value.slice (some ⟨g, 0, none⟩) n cap).ownBlock = some g := rfl
  rw [e]
  refine ⟨fun h => ?_, fun k hk => ⟨by have := (hS k hk).1; omega, (hS k hk).2.1, fun h => ?_⟩⟩
  · cases h
    rcases hat with h | h
    · exact hvp h
    · omega
  · cases h
    rcases hat with h | h
    · exact (hS g hk).2.2 h
    · have := (hS g hk).1; omega
theorem ws_push {w1 : World} {p g cap : Nat} {v : Value} {t : TypeId} {LL : List UInt8} {b : UInt8} {S : Nat → Prop} (hc1 : w1.heap[p]? = some (.cells #[v] t (0, 0)))
    (hown1 : w1.ownsRow 0 5 1 (.slice (some ⟨g, 0, none⟩) (LL.length + 1) cap) (LL.length + 1) (List.map bc LL ++ [.int .u8 b.toNat]))
    (hn : (Value.slice (some ⟨g, 0, none⟩) (LL.length + 1) cap).ownBlock ≠ some p ∧ ∀ k, S k → k < w1.heap.size ∧ k ≠ p ∧ (Value.slice (some ⟨g, 0, none⟩) (LL.length + 1) cap).ownBlock ≠ some k) :
    Ws (w1.setCell ⟨p, 0, none⟩ (.slice (some ⟨g, 0, none⟩) (LL.length + 1) cap)) p S (LL ++ [b]) := by
  refine ⟨_, t, one_setCell hc1, ?_, hn.1, fun k hk => ⟨by simpa [World.setCell] using (hn.2 k hk).1, (hn.2 k hk).2⟩⟩
  have hgp : g ≠ p := fun e => hn.1 (by rw [e]; rfl)
  refine ⟨by simp, .inr ?_⟩
  rcases hown1.2 with ⟨h5, _⟩ | ⟨g', cap', cur, e, hb1, hg, hrest⟩
  · cases h5
  · cases e
    refine ⟨g, cap, cur, by simp, hb1, ?_, by simpa [bc] using hrest⟩
    show (w1.heap.modify p _)[g]? = _
    rw [Array.getElem?_modify, if_neg (Ne.symm hgp)]
    exact hg
theorem ks_push {w wr w1 : World} {p : Nat} {v : Value} {o : Obj} {S : Nat → Prop} (hkp : Ks S w wr) (hS : ∀ k, S k → k < wr.heap.size ∧ k ≠ p ∧ v.ownBlock ≠ some k) (hg : (wr.alloc o).drew.grownBy w1 v.ownBlock) (u : Value) :
    Ks S w (w1.setCell ⟨p, 0, none⟩ u) := by
  refine hkp.trans ⟨?_, ?_, ?_, ?_, fun k hk => ?_⟩
  · exact (show (w1.setCell ⟨p, 0, none⟩ u).os = w1.os from rfl).trans hg.os
  · exact (show (w1.setCell ⟨p, 0, none⟩ u).tape = w1.tape from rfl).trans hg.tape
  · exact (show (w1.setCell ⟨p, 0, none⟩ u).output = w1.output from rfl).trans hg.output
  · have h2 : (w1.setCell ⟨p, 0, none⟩ u).heap.size = w1.heap.size := by simp [World.setCell]
    have h1 := hg.size
    simp at h1
    omega
  · obtain ⟨h1, h2, h3⟩ := hS k hk
    have e1 : (w1.setCell ⟨p, 0, none⟩ u).heap[k]? = w1.heap[k]? := by
      show (w1.heap.modify p _)[k]? = _
      rw [Array.getElem?_modify, if_neg (fun e => h2 e.symm)]
    rw [e1, hg.block k (by simp; omega) (fun e => h3 e.symm)]
    exact Below.heap_alloc wr o k h1
set_option maxRecDepth 100000 in
/-- What 'put' does to a writer. -/
theorem sput_u8 (p n : Nat) (S : Nat → Prop) (L : List UInt8) (width : Nat) (w : World) (hn : n < 256) (hwd : width ≤ 1) (hL : L.length ≤ 1000000) (hw : Ws w p S L) :
    Calls Tryd.prog 111 #[.pointer (some ⟨p, 0, none⟩), .int .u8 n, .int .i64 width] w fun e w' => e = .returned (.tuple #[]) ∧ Ws w' p S (L ++ leB n width) ∧ Ks S w w' := by
  obtain ⟨i0, hi, hz0, hz1, hz2⟩ := info_parts info5
  go_enter Tryd.func111, Tryd.ntmps111
  go_wp2
  go_loopw [10] (fun i wr => ∃ k : Nat, k ≤ width ∧ i = .int .i64 k ∧ Ws wr p S (L ++ leB n k) ∧ Ks S w wr) (fun i _ => width - (intOf i).toNat)
  case atStart => exact ⟨0, Nat.zero_le _, rfl, by rw [leB, List.append_nil]; exact hw, Ks.refl _ _⟩
  case round =>
    obtain ⟨k, hk, rfl, ⟨v, t, hc, hown, hvp, hS⟩, hkp⟩ := hrel
    by_cases hlt : k < width
    · have hcell := cell_of_one hc
      have hfrz := free_of_one hc
      have hlp := lt_of_block hc
      obtain ⟨m, hm⟩ : ∃ m, m = 8 * k := ⟨_, rfl⟩
      have hm0 : (0 : Int) ≤ (m : Int) := Int.natCast_nonneg _
      have hm1 : (m : Int) ≤ 64 := by omega
      obtain ⟨b, hb⟩ : ∃ b : UInt8, b = UInt8.ofNat (n / 256 ^ k % 256) := ⟨_, rfl⟩
      have e1 : IntKind.u64.wrap (n : Int) = (n : Int) := IntWalk.u64_in _ (by omega)
      have e2 : IntKind.i64.wrap (8 * (k : Int)) = (m : Int) := by rw [IntWalk.i64_in _ (by omega)]; omega
      have e4 : IntKind.u8.wrap ((n : Int) / 2 ^ m) = (b.toNat : Int) := by
        rw [IntKind.wrap_u8, hb, hm, UInt8.toNat_ofNat', Nat.mod_mod]
        exact (byte_div n k).symm
      have hsn := leB_snoc k n
      rw [← hb] at hsn
      have HS := Lib.hid hsn
      have hLk : (L ++ leB n k).length = L.length + k := by simp [leB_length]
      obtain ⟨LL, hLL⟩ : ∃ LL, LL = L ++ leB n k := ⟨_, rfl⟩
      rw [← hLL] at hown hLk
      have hlen1 : LL.length + 1 ≤ maxLen := by rw [hLk]; unfold maxLen; omega
      have hlen2 : (LL.length + 1) * 1 ≤ 140737488355328 := by rw [hLk]; omega
      have HL := Lib.hid hLL
      clear hLk hLL
      have hne := hvp
      clear hm hb hsn
      go_wp2
      go_region_law ((refine step_append_lies _ (by rfl) (.tmp 17) (.tmp 24) 47 (by rfl) 0 5 i0 (.int .u8 0) 1 1 Tryd.underlying47 hi hz0 hz1 hz2 rfl (by decide) v _ _ (by rfl) ((hown.alloc _).drew) ⟨wr.heap.size, 0, none⟩ 1 1 [.int .u8 b.toNat] (by rfl) (by rfl) (World.news_of_block (cs := #[.int .u8 b.toNat]) (t := 5) (fr := (0, 0)) (heap_alloc_new wr _)) (by simp [Value.oneCell']) (by decide) hlen1 hlen2 (Nat.zero_le _) (wr.heap.size + 1) (by simp) ?_; intro g cap w1 hown1 hgrow hat hlt1; have hc1 := grown_block hc hgrow hne; have hcell1 := cell_of_one hc1; have hfrz1 := free_of_one hc1))
      all_goals
        have hW1 := ws_push hc1 hown1 (ws_new hvp hS hc hat hgrow hlt1)
        have hK1 := ks_push hkp hS hgrow (.slice (some ⟨g, 0, none⟩) (LL.length + 1) cap)
        have HW1 := Lib.hid hW1
        have HK1 := Lib.hid hK1
        clear hW1 hK1 hown hown1 hgrow hc1 hcell1 hfrz1 hc hcell hfrz
        go_wp2
        go_roundw
        case rel => exact ⟨k + 1, by omega, by go_num, by rw [HS.out, ← List.append_assoc, ← HL.out]; exact HW1.out, HK1.out⟩
        case measure => simp [intOf]; omega
    · obtain rfl : k = width := by omega
      go_wp2
      go_end0
      exact ⟨rfl, ⟨v, t, hc, hown, hvp, hS⟩, hkp⟩

set_option maxRecDepth 100000 in
/-- What 'put' does to a writer. -/
theorem sput_u64 (p n : Nat) (S : Nat → Prop) (L : List UInt8) (width : Nat) (w : World) (hn : n < 18446744073709551616) (hwd : width ≤ 8) (hL : L.length ≤ 1000000) (hw : Ws w p S L) :
    Calls Tryd.prog 142 #[.pointer (some ⟨p, 0, none⟩), .int .u64 n, .int .i64 width] w fun e w' => e = .returned (.tuple #[]) ∧ Ws w' p S (L ++ leB n width) ∧ Ks S w w' := by
  obtain ⟨i0, hi, hz0, hz1, hz2⟩ := info_parts info5
  go_enter Tryd.func142, Tryd.ntmps142
  go_wp2
  go_loopw [10] (fun i wr => ∃ k : Nat, k ≤ width ∧ i = .int .i64 k ∧ Ws wr p S (L ++ leB n k) ∧ Ks S w wr) (fun i _ => width - (intOf i).toNat)
  case atStart => exact ⟨0, Nat.zero_le _, rfl, by rw [leB, List.append_nil]; exact hw, Ks.refl _ _⟩
  case round =>
    obtain ⟨k, hk, rfl, ⟨v, t, hc, hown, hvp, hS⟩, hkp⟩ := hrel
    by_cases hlt : k < width
    · have hcell := cell_of_one hc
      have hfrz := free_of_one hc
      have hlp := lt_of_block hc
      obtain ⟨m, hm⟩ : ∃ m, m = 8 * k := ⟨_, rfl⟩
      have hm0 : (0 : Int) ≤ (m : Int) := Int.natCast_nonneg _
      have hm1 : (m : Int) ≤ 64 := by omega
      obtain ⟨b, hb⟩ : ∃ b : UInt8, b = UInt8.ofNat (n / 256 ^ k % 256) := ⟨_, rfl⟩
      have e1 : IntKind.u64.wrap (n : Int) = (n : Int) := IntWalk.u64_in _ (by omega)
      have e2 : IntKind.i64.wrap (8 * (k : Int)) = (m : Int) := by rw [IntWalk.i64_in _ (by omega)]; omega
      have e4 : IntKind.u8.wrap ((n : Int) / 2 ^ m) = (b.toNat : Int) := by
        rw [IntKind.wrap_u8, hb, hm, UInt8.toNat_ofNat', Nat.mod_mod]
        exact (byte_div n k).symm
      have hsn := leB_snoc k n
      rw [← hb] at hsn
      have HS := Lib.hid hsn
      have hLk : (L ++ leB n k).length = L.length + k := by simp [leB_length]
      obtain ⟨LL, hLL⟩ : ∃ LL, LL = L ++ leB n k := ⟨_, rfl⟩
      rw [← hLL] at hown hLk
      have hlen1 : LL.length + 1 ≤ maxLen := by rw [hLk]; unfold maxLen; omega
      have hlen2 : (LL.length + 1) * 1 ≤ 140737488355328 := by rw [hLk]; omega
      have HL := Lib.hid hLL
      clear hLk hLL
      have hne := hvp
      clear hm hb hsn
      go_wp2
      go_region_law ((refine step_append_lies _ (by rfl) (.tmp 17) (.tmp 23) 47 (by rfl) 0 5 i0 (.int .u8 0) 1 1 Tryd.underlying47 hi hz0 hz1 hz2 rfl (by decide) v _ _ (by rfl) ((hown.alloc _).drew) ⟨wr.heap.size, 0, none⟩ 1 1 [.int .u8 b.toNat] (by rfl) (by rfl) (World.news_of_block (cs := #[.int .u8 b.toNat]) (t := 5) (fr := (0, 0)) (heap_alloc_new wr _)) (by simp [Value.oneCell']) (by decide) hlen1 hlen2 (Nat.zero_le _) (wr.heap.size + 1) (by simp) ?_; intro g cap w1 hown1 hgrow hat hlt1; have hc1 := grown_block hc hgrow hne; have hcell1 := cell_of_one hc1; have hfrz1 := free_of_one hc1))
      all_goals
        have hW1 := ws_push hc1 hown1 (ws_new hvp hS hc hat hgrow hlt1)
        have hK1 := ks_push hkp hS hgrow (.slice (some ⟨g, 0, none⟩) (LL.length + 1) cap)
        have HW1 := Lib.hid hW1
        have HK1 := Lib.hid hK1
        clear hW1 hK1 hown hown1 hgrow hc1 hcell1 hfrz1 hc hcell hfrz
        go_wp2
        go_roundw
        case rel => exact ⟨k + 1, by omega, by go_num, by rw [HS.out, ← List.append_assoc, ← HL.out]; exact HW1.out, HK1.out⟩
        case measure => simp [intOf]; omega
    · obtain rfl : k = width := by omega
      go_wp2
      go_end0
      exact ⟨rfl, ⟨v, t, hc, hown, hvp, hS⟩, hkp⟩

set_option maxRecDepth 100000 in
/-- What 'U8' does to a writer. -/
theorem swrite_u8 (p n : Nat) (S : Nat → Prop) (L : List UInt8) (w : World) (hn : n < 256) (hL : L.length ≤ 1000000) (hw : Ws w p S L) :
    Calls Tryd.prog 92 #[.pointer (some ⟨p, 0, none⟩), .int .u8 n] w fun e w' => e = .returned (.tuple #[]) ∧ Ws w' p S (L ++ leB n 1) ∧ Ks S w w' := by
  go_enter Tryd.func92, Tryd.ntmps92
  go_wp2_with fail
  refine (sput_u8 p n S L 1 w hn (Nat.le_refl _) hL hw).mono ?_
  rintro r w' ⟨rfl, hr', hk'⟩
  go_wp2
  go_end0
  exact ⟨rfl, hr', hk'⟩
set_option maxRecDepth 100000 in
/-- What 'U64' does to a writer. -/
theorem swrite_u64 (p n : Nat) (S : Nat → Prop) (L : List UInt8) (w : World) (hn : n < 18446744073709551616) (hL : L.length ≤ 1000000) (hw : Ws w p S L) :
    Calls Tryd.prog 141 #[.pointer (some ⟨p, 0, none⟩), .int .u64 n] w fun e w' => e = .returned (.tuple #[]) ∧ Ws w' p S (L ++ leB n 8) ∧ Ks S w w' := by
  go_enter Tryd.func141, Tryd.ntmps141
  go_wp2_with fail
  refine (sput_u64 p n S L 8 w hn (Nat.le_refl _) hL hw).mono ?_
  rintro r w' ⟨rfl, hr', hk'⟩
  go_wp2
  go_end0
  exact ⟨rfl, hr', hk'⟩
set_option maxRecDepth 100000 in
/-- What 'Bytes' answers. -/
theorem sbytes_any (p : Nat) (S : Nat → Prop) (L : List UInt8) (w : World) (hw : Ws w p S L) :
    Calls Tryd.prog 59 #[.pointer (some ⟨p, 0, none⟩)] w fun e w' => e = .returned (.string (bs L)) ∧ w = w' := by
  obtain ⟨v, t, hc, hown, _⟩ := hw
  have hcell := cell_of_one hc
  have hcv := own_conv hown
  clear hc hown
  go_enter Tryd.func59, Tryd.ntmps59
  go_wp2
  go_ret
  exact ⟨rfl, rfl⟩
end Go.Proofs.YtdgbililgkhjfaaDoor.Codec
