/- What 'fields' does, by a writer and by a reader: walked. Conditions: the blocks. -/
import Derived.Test.YtghgefiaijfbgaaRecB
namespace Go.Proofs.Ytghgefiaijfbgaa.Rec
open Go.RowKit Go.Proofs.Ytghgefiaijfbgaa.Crc Go.Proofs.Ytghgefiaijfbgaa.Codec
set_option linter.unusedVariables false
theorem nilOL (a : Addr) (w : World) : (nilAhead 205 45 (.pointer (some a)) "hindcast/record.long").run Try.prog w = .ok (some false) w := by kernel_rfl
theorem metOL (a : Addr) (w : World) : (method 205 45 (.pointer (some a)) "hindcast/record.long").run Try.prog w = .ok (51, .pointer (some a)) w := by kernel_rfl
theorem nilOB (a : Addr) (w : World) : (nilAhead 205 45 (.pointer (some a)) "hindcast/record.byte").run Try.prog w = .ok (some false) w := by kernel_rfl
theorem metOB (a : Addr) (w : World) : (method 205 45 (.pointer (some a)) "hindcast/record.byte").run Try.prog w = .ok (16, .pointer (some a)) w := by kernel_rfl
theorem nilIL (a : Addr) (w : World) : (nilAhead 205 60 (.agg #[.pointer (some a)]) "hindcast/record.long").run Try.prog w = .ok (some false) w := by kernel_rfl
theorem metIL (a : Addr) (w : World) : (method 205 60 (.agg #[.pointer (some a)]) "hindcast/record.long").run Try.prog w = .ok (55, .agg #[.pointer (some a)]) w := by kernel_rfl
theorem nilIB (a : Addr) (w : World) : (nilAhead 205 60 (.agg #[.pointer (some a)]) "hindcast/record.byte").run Try.prog w = .ok (some false) w := by kernel_rfl
theorem metIB (a : Addr) (w : World) : (method 205 60 (.agg #[.pointer (some a)]) "hindcast/record.byte").run Try.prog w = .ok (23, .agg #[.pointer (some a)]) w := by kernel_rfl
set_option maxRecDepth 100000 in
/-- Kind 1, by a writer. -/
theorem fout1 (p B q : Nat) (r : R) (L : List UInt8) (w : World) (hr : r.wf) (hL : L.length ≤ 1000) (hw0 : Wr w p B L) (hb0 : Blk w q (rc r) 27) (hne : q ≠ p) (hqB : q < B) (hk : r.kind = 1) :
    Calls Try.prog 17 #[.pointer (some ⟨q, 0, none⟩), .iface 45 (.pointer (some ⟨p, 0, none⟩))] w fun e w' => e = .returned (.bool true) ∧ Wr w' p B (L ++ (leB r.frame 8 ++ leB r.own 1)) ∧ Kp B p w w' := by
  obtain ⟨kind, frame, own, p0, p1, seg, first, epoch, player⟩ := r
  dsimp only at hk
  subst hk
  have d0 := hb0.cell (off := 0) _ rfl
  dsimp only [rc] at d0
  have n1 := nilOL ⟨p, 0, none⟩
  have n2 := nilOB ⟨p, 0, none⟩
  have m1 := metOL ⟨p, 0, none⟩
  have m2 := metOB ⟨p, 0, none⟩
  have hk0 := Kp.refl B p w
  go_enter Try.func17, Try.ntmps17
  have hl0 : L.length ≤ 1000000 := by omega
  have c0 := hb0.cell (off := 1) _ rfl
  dsimp only [rc] at c0
  go_wp2_with fail
  go_region_with (go_at_call 51; refine (outlong_any p B q 1 frame _ _ hr.frame hl0 (wr_drew hw0) c0).mono ?_; rintro r0 w1 ⟨rfl, hw1, hj1⟩)
  have hk1 := hk0.drew.trans hj1
  have hb1 := hb0.kp hk1 hqB hne
  clear hj1 c0
  have hl1 : (L ++ leB frame 8).length ≤ 1000000 := by simp only [List.length_append, leB_length]; omega
  have c1 := hb1.cell (off := 2) _ rfl
  dsimp only [rc] at c1
  go_wp2_with fail
  go_region_with (go_at_call 16; refine (outbyte_any p B q 2 own _ _ hr.own hl1 (wr_drew hw1) c1).mono ?_; rintro r1 w2 ⟨rfl, hw2, hj2⟩)
  have hk2 := hk1.drew.trans hj2
  have hb2 := hb0.kp hk2 hqB hne
  clear hj2 c1
  clear hb1 hb2
  have HK := Lib.hid hk2
  have HW := Lib.hid hw2
  clear hk0 hk1 hk2 hw0 hw1 hw2
  go_wp2
  go_ret
  exact ⟨rfl, by simpa [List.append_assoc] using HW.out, HK.out⟩
set_option maxRecDepth 100000 in
/-- Kind 2, by a writer. -/
theorem fout2 (p B q : Nat) (r : R) (L : List UInt8) (w : World) (hr : r.wf) (hL : L.length ≤ 1000) (hw0 : Wr w p B L) (hb0 : Blk w q (rc r) 27) (hne : q ≠ p) (hqB : q < B) (hk : r.kind = 2) :
    Calls Try.prog 17 #[.pointer (some ⟨q, 0, none⟩), .iface 45 (.pointer (some ⟨p, 0, none⟩))] w fun e w' => e = .returned (.bool true) ∧ Wr w' p B (L ++ (leB r.frame 8 ++ leB r.p0 1 ++ leB r.p1 1)) ∧ Kp B p w w' := by
  obtain ⟨kind, frame, own, p0, p1, seg, first, epoch, player⟩ := r
  dsimp only at hk
  subst hk
  have d0 := hb0.cell (off := 0) _ rfl
  dsimp only [rc] at d0
  have n1 := nilOL ⟨p, 0, none⟩
  have n2 := nilOB ⟨p, 0, none⟩
  have m1 := metOL ⟨p, 0, none⟩
  have m2 := metOB ⟨p, 0, none⟩
  have hk0 := Kp.refl B p w
  go_enter Try.func17, Try.ntmps17
  have hl0 : L.length ≤ 1000000 := by omega
  have c0 := hb0.cell (off := 1) _ rfl
  dsimp only [rc] at c0
  go_wp2_with fail
  go_region_with (go_at_call 51; refine (outlong_any p B q 1 frame _ _ hr.frame hl0 (wr_drew hw0) c0).mono ?_; rintro r0 w1 ⟨rfl, hw1, hj1⟩)
  have hk1 := hk0.drew.trans hj1
  have hb1 := hb0.kp hk1 hqB hne
  clear hj1 c0
  have hl1 : (L ++ leB frame 8).length ≤ 1000000 := by simp only [List.length_append, leB_length]; omega
  have c1 := hb1.cell (off := 3) _ rfl
  dsimp only [rc] at c1
  go_wp2_with fail
  go_region_with (go_at_call 16; refine (outbyte_any p B q 3 p0 _ _ hr.p0 hl1 (wr_drew hw1) c1).mono ?_; rintro r1 w2 ⟨rfl, hw2, hj2⟩)
  have hk2 := hk1.drew.trans hj2
  have hb2 := hb0.kp hk2 hqB hne
  clear hj2 c1
  have hl2 : ((L ++ leB frame 8) ++ leB p0 1).length ≤ 1000000 := by simp only [List.length_append, leB_length]; omega
  have c2 := hb2.cell (off := 4) _ rfl
  dsimp only [rc] at c2
  go_wp2_with fail
  go_region_with (go_at_call 16; refine (outbyte_any p B q 4 p1 _ _ hr.p1 hl2 (wr_drew hw2) c2).mono ?_; rintro r2 w3 ⟨rfl, hw3, hj3⟩)
  have hk3 := hk2.drew.trans hj3
  have hb3 := hb0.kp hk3 hqB hne
  clear hj3 c2
  clear hb1 hb2 hb3
  have HK := Lib.hid hk3
  have HW := Lib.hid hw3
  clear hk0 hk1 hk2 hk3 hw0 hw1 hw2 hw3
  go_wp2
  go_ret
  exact ⟨rfl, by simpa [List.append_assoc] using HW.out, HK.out⟩
set_option maxRecDepth 100000 in
/-- Kind 3, by a writer. -/
theorem fout3 (p B q : Nat) (r : R) (L : List UInt8) (w : World) (hr : r.wf) (hL : L.length ≤ 1000) (hw0 : Wr w p B L) (hb0 : Blk w q (rc r) 27) (hne : q ≠ p) (hqB : q < B) (hk : r.kind = 3) :
    Calls Try.prog 17 #[.pointer (some ⟨q, 0, none⟩), .iface 45 (.pointer (some ⟨p, 0, none⟩))] w fun e w' => e = .returned (.bool true) ∧ Wr w' p B (L ++ (leB r.seg 8 ++ leB r.first 8 ++ leB r.epoch 8 ++ leB r.player 1)) ∧ Kp B p w w' := by
  obtain ⟨kind, frame, own, p0, p1, seg, first, epoch, player⟩ := r
  dsimp only at hk
  subst hk
  have d0 := hb0.cell (off := 0) _ rfl
  dsimp only [rc] at d0
  have n1 := nilOL ⟨p, 0, none⟩
  have n2 := nilOB ⟨p, 0, none⟩
  have m1 := metOL ⟨p, 0, none⟩
  have m2 := metOB ⟨p, 0, none⟩
  have hk0 := Kp.refl B p w
  go_enter Try.func17, Try.ntmps17
  have hl0 : L.length ≤ 1000000 := by omega
  have c0 := hb0.cell (off := 5) _ rfl
  dsimp only [rc] at c0
  go_wp2_with fail
  go_region_with (go_at_call 51; refine (outlong_any p B q 5 seg _ _ hr.seg hl0 (wr_drew hw0) c0).mono ?_; rintro r0 w1 ⟨rfl, hw1, hj1⟩)
  have hk1 := hk0.drew.trans hj1
  have hb1 := hb0.kp hk1 hqB hne
  clear hj1 c0
  have hl1 : (L ++ leB seg 8).length ≤ 1000000 := by simp only [List.length_append, leB_length]; omega
  have c1 := hb1.cell (off := 6) _ rfl
  dsimp only [rc] at c1
  go_wp2_with fail
  go_region_with (go_at_call 51; refine (outlong_any p B q 6 first _ _ hr.first hl1 (wr_drew hw1) c1).mono ?_; rintro r1 w2 ⟨rfl, hw2, hj2⟩)
  have hk2 := hk1.drew.trans hj2
  have hb2 := hb0.kp hk2 hqB hne
  clear hj2 c1
  have hl2 : ((L ++ leB seg 8) ++ leB first 8).length ≤ 1000000 := by simp only [List.length_append, leB_length]; omega
  have c2 := hb2.cell (off := 7) _ rfl
  dsimp only [rc] at c2
  go_wp2_with fail
  go_region_with (go_at_call 51; refine (outlong_any p B q 7 epoch _ _ hr.epoch hl2 (wr_drew hw2) c2).mono ?_; rintro r2 w3 ⟨rfl, hw3, hj3⟩)
  have hk3 := hk2.drew.trans hj3
  have hb3 := hb0.kp hk3 hqB hne
  clear hj3 c2
  have hl3 : (((L ++ leB seg 8) ++ leB first 8) ++ leB epoch 8).length ≤ 1000000 := by simp only [List.length_append, leB_length]; omega
  have c3 := hb3.cell (off := 8) _ rfl
  dsimp only [rc] at c3
  go_wp2_with fail
  go_region_with (go_at_call 16; refine (outbyte_any p B q 8 player _ _ hr.player hl3 (wr_drew hw3) c3).mono ?_; rintro r3 w4 ⟨rfl, hw4, hj4⟩)
  have hk4 := hk3.drew.trans hj4
  have hb4 := hb0.kp hk4 hqB hne
  clear hj4 c3
  clear hb1 hb2 hb3 hb4
  have HK := Lib.hid hk4
  have HW := Lib.hid hw4
  clear hk0 hk1 hk2 hk3 hk4 hw0 hw1 hw2 hw3 hw4
  go_wp2
  go_ret
  exact ⟨rfl, by simpa [List.append_assoc] using HW.out, HK.out⟩
theorem rd_drew {w : World} {p : Nat} {s : ByteArray} {e : Int} (h : Rd w p s e) : Rd w.drew p s e := h
theorem blk_drew {w : World} {q : Nat} {cs : Array Value} {t : TypeId} (h : Blk w q cs t) : Blk w.drew q cs t := h
theorem Kq.refl (B p q : Nat) (w : World) : Kq B p q w w := ⟨rfl, rfl, rfl, Nat.le_refl _, fun _ _ _ _ => rfl⟩
theorem Kq.trans {B p q : Nat} {a b c : World} (h : Kq B p q a b) (k : Kq B p q b c) : Kq B p q a c :=
  ⟨k.os.trans h.os, k.tape.trans h.tape, k.output.trans h.output, Nat.le_trans h.size k.size, fun i hi hp hq => (k.block i hi hp hq).trans (h.block i hi hp hq)⟩
theorem Kq.mono {B B' p q : Nat} {a b : World} (h : Kq B p q a b) (hB : B' ≤ B) : Kq B' p q a b := ⟨h.os, h.tape, h.output, h.size, fun i hi hp hq => h.block i (by omega) hp hq⟩
theorem Kq.drew {B p q : Nat} {a b : World} (h : Kq B p q a b) : Kq B p q a b.drew := ⟨h.os, h.tape, h.output, h.size, h.block⟩
theorem tkR_size (k : Nat) (s : ByteArray) (e : Int) : (tkR k s e).size ≤ s.size := by
  unfold tkR
  by_cases h : e = 0
  · rw [if_pos h]
    by_cases h2 : k ≤ s.size
    · rw [if_pos h2, ByteArray.size_extract]; omega
    · rw [if_neg h2]; exact Nat.zero_le _
  · rw [if_neg h]; exact Nat.le_refl _
/-- What a reader gives next, k bytes; what is left; the error. -/
def rv (k : Nat) (s : ByteArray) (e : Int) : Nat := V (tkS k s e).data.toList
set_option maxRecDepth 100000 in
/-- Kind 1, by a reader. -/
theorem fin1 (p q : Nat) (r : R) (s : ByteArray) (e : Int) (w : World) (hs0 : s.size ≤ maxLen) (hr0 : Rd w p s e) (hb0 : Blk w q (rc r) 27) (hne : q ≠ p) (hk : r.kind = 1) :
    Calls Try.prog 17 #[.pointer (some ⟨q, 0, none⟩), .iface 60 (.agg #[.pointer (some ⟨p, 0, none⟩)])] w fun v w' => v = .returned (.bool true) ∧ Rd w' p (tkR 1 (tkR 8 s e) (tkE 8 s e)) (tkE 1 (tkR 8 s e) (tkE 8 s e)) ∧ Blk w' q (rc { r with frame := rv 8 s e, own := rv 1 (tkR 8 s e) (tkE 8 s e) }) 27 ∧ Kq w.heap.size p q w w' := by
  obtain ⟨kind, frame, own, p0, p1, seg, first, epoch, player⟩ := r
  dsimp only at hk
  subst hk
  have d0 := hb0.cell (off := 0) _ rfl
  dsimp only [rc] at d0
  have n1 := nilIL ⟨p, 0, none⟩
  have n2 := nilIB ⟨p, 0, none⟩
  have m1 := metIL ⟨p, 0, none⟩
  have m2 := metIB ⟨p, 0, none⟩
  have hk0 := Kq.refl w.heap.size p q w
  go_enter Try.func17, Try.ntmps17
  go_wp2_with fail
  go_region_with (go_at_call 55; refine (inlong_any p q 1 _ _ _ s e _ hs0 (rd_drew hr0) (blk_drew hb0) rfl hne).mono ?_; rintro r1 w1 ⟨rfl, hr1, hb1, hj1⟩)
  have hk1 := hk0.drew.trans (hj1.mono hk0.size)
  clear hj1
  have hs1 : (tkR 8 s e).size ≤ maxLen := Nat.le_trans (tkR_size _ _ _) hs0
  go_wp2_with fail
  go_region_with (go_at_call 23; refine (inbyte_any p q 2 _ _ _ (tkR 8 s e) (tkE 8 s e) _ hs1 (rd_drew hr1) (blk_drew hb1) rfl hne).mono ?_; rintro r2 w2 ⟨rfl, hr2, hb2, hj2⟩)
  have hk2 := hk1.drew.trans (hj2.mono hk1.size)
  clear hj2
  have HK := Lib.hid hk2
  have HR := Lib.hid hr2
  have HB := Lib.hid hb2
  clear hk0 hr0 hb0 hk1 hr1 hb1 hk2 hr2 hb2
  go_wp2
  go_ret
  exact ⟨rfl, HR.out, HB.out, HK.out⟩
set_option maxRecDepth 100000 in
/-- Kind 2, by a reader. -/
theorem fin2 (p q : Nat) (r : R) (s : ByteArray) (e : Int) (w : World) (hs0 : s.size ≤ maxLen) (hr0 : Rd w p s e) (hb0 : Blk w q (rc r) 27) (hne : q ≠ p) (hk : r.kind = 2) :
    Calls Try.prog 17 #[.pointer (some ⟨q, 0, none⟩), .iface 60 (.agg #[.pointer (some ⟨p, 0, none⟩)])] w fun v w' => v = .returned (.bool true) ∧ Rd w' p (tkR 1 (tkR 1 (tkR 8 s e) (tkE 8 s e)) (tkE 1 (tkR 8 s e) (tkE 8 s e))) (tkE 1 (tkR 1 (tkR 8 s e) (tkE 8 s e)) (tkE 1 (tkR 8 s e) (tkE 8 s e))) ∧ Blk w' q (rc { r with frame := rv 8 s e, p0 := rv 1 (tkR 8 s e) (tkE 8 s e), p1 := rv 1 (tkR 1 (tkR 8 s e) (tkE 8 s e)) (tkE 1 (tkR 8 s e) (tkE 8 s e)) }) 27 ∧ Kq w.heap.size p q w w' := by
  obtain ⟨kind, frame, own, p0, p1, seg, first, epoch, player⟩ := r
  dsimp only at hk
  subst hk
  have d0 := hb0.cell (off := 0) _ rfl
  dsimp only [rc] at d0
  have n1 := nilIL ⟨p, 0, none⟩
  have n2 := nilIB ⟨p, 0, none⟩
  have m1 := metIL ⟨p, 0, none⟩
  have m2 := metIB ⟨p, 0, none⟩
  have hk0 := Kq.refl w.heap.size p q w
  go_enter Try.func17, Try.ntmps17
  go_wp2_with fail
  go_region_with (go_at_call 55; refine (inlong_any p q 1 _ _ _ s e _ hs0 (rd_drew hr0) (blk_drew hb0) rfl hne).mono ?_; rintro r1 w1 ⟨rfl, hr1, hb1, hj1⟩)
  have hk1 := hk0.drew.trans (hj1.mono hk0.size)
  clear hj1
  have hs1 : (tkR 8 s e).size ≤ maxLen := Nat.le_trans (tkR_size _ _ _) hs0
  go_wp2_with fail
  go_region_with (go_at_call 23; refine (inbyte_any p q 3 _ _ _ (tkR 8 s e) (tkE 8 s e) _ hs1 (rd_drew hr1) (blk_drew hb1) rfl hne).mono ?_; rintro r2 w2 ⟨rfl, hr2, hb2, hj2⟩)
  have hk2 := hk1.drew.trans (hj2.mono hk1.size)
  clear hj2
  have hs2 : (tkR 1 (tkR 8 s e) (tkE 8 s e)).size ≤ maxLen := Nat.le_trans (tkR_size _ _ _) hs1
  go_wp2_with fail
  go_region_with (go_at_call 23; refine (inbyte_any p q 4 _ _ _ (tkR 1 (tkR 8 s e) (tkE 8 s e)) (tkE 1 (tkR 8 s e) (tkE 8 s e)) _ hs2 (rd_drew hr2) (blk_drew hb2) rfl hne).mono ?_; rintro r3 w3 ⟨rfl, hr3, hb3, hj3⟩)
  have hk3 := hk2.drew.trans (hj3.mono hk2.size)
  clear hj3
  have HK := Lib.hid hk3
  have HR := Lib.hid hr3
  have HB := Lib.hid hb3
  clear hk0 hr0 hb0 hk1 hr1 hb1 hk2 hr2 hb2 hk3 hr3 hb3
  go_wp2
  go_ret
  exact ⟨rfl, HR.out, HB.out, HK.out⟩
set_option maxRecDepth 100000 in
/-- Kind 3, by a reader. -/
theorem fin3 (p q : Nat) (r : R) (s : ByteArray) (e : Int) (w : World) (hs0 : s.size ≤ maxLen) (hr0 : Rd w p s e) (hb0 : Blk w q (rc r) 27) (hne : q ≠ p) (hk : r.kind = 3) :
    Calls Try.prog 17 #[.pointer (some ⟨q, 0, none⟩), .iface 60 (.agg #[.pointer (some ⟨p, 0, none⟩)])] w fun v w' => v = .returned (.bool true) ∧ Rd w' p (tkR 1 (tkR 8 (tkR 8 (tkR 8 s e) (tkE 8 s e)) (tkE 8 (tkR 8 s e) (tkE 8 s e))) (tkE 8 (tkR 8 (tkR 8 s e) (tkE 8 s e)) (tkE 8 (tkR 8 s e) (tkE 8 s e)))) (tkE 1 (tkR 8 (tkR 8 (tkR 8 s e) (tkE 8 s e)) (tkE 8 (tkR 8 s e) (tkE 8 s e))) (tkE 8 (tkR 8 (tkR 8 s e) (tkE 8 s e)) (tkE 8 (tkR 8 s e) (tkE 8 s e)))) ∧ Blk w' q (rc { r with seg := rv 8 s e, first := rv 8 (tkR 8 s e) (tkE 8 s e), epoch := rv 8 (tkR 8 (tkR 8 s e) (tkE 8 s e)) (tkE 8 (tkR 8 s e) (tkE 8 s e)), player := rv 1 (tkR 8 (tkR 8 (tkR 8 s e) (tkE 8 s e)) (tkE 8 (tkR 8 s e) (tkE 8 s e))) (tkE 8 (tkR 8 (tkR 8 s e) (tkE 8 s e)) (tkE 8 (tkR 8 s e) (tkE 8 s e))) }) 27 ∧ Kq w.heap.size p q w w' := by
  obtain ⟨kind, frame, own, p0, p1, seg, first, epoch, player⟩ := r
  dsimp only at hk
  subst hk
  have d0 := hb0.cell (off := 0) _ rfl
  dsimp only [rc] at d0
  have n1 := nilIL ⟨p, 0, none⟩
  have n2 := nilIB ⟨p, 0, none⟩
  have m1 := metIL ⟨p, 0, none⟩
  have m2 := metIB ⟨p, 0, none⟩
  have hk0 := Kq.refl w.heap.size p q w
  go_enter Try.func17, Try.ntmps17
  go_wp2_with fail
  go_region_with (go_at_call 55; refine (inlong_any p q 5 _ _ _ s e _ hs0 (rd_drew hr0) (blk_drew hb0) rfl hne).mono ?_; rintro r1 w1 ⟨rfl, hr1, hb1, hj1⟩)
  have hk1 := hk0.drew.trans (hj1.mono hk0.size)
  clear hj1
  have hs1 : (tkR 8 s e).size ≤ maxLen := Nat.le_trans (tkR_size _ _ _) hs0
  go_wp2_with fail
  go_region_with (go_at_call 55; refine (inlong_any p q 6 _ _ _ (tkR 8 s e) (tkE 8 s e) _ hs1 (rd_drew hr1) (blk_drew hb1) rfl hne).mono ?_; rintro r2 w2 ⟨rfl, hr2, hb2, hj2⟩)
  have hk2 := hk1.drew.trans (hj2.mono hk1.size)
  clear hj2
  have hs2 : (tkR 8 (tkR 8 s e) (tkE 8 s e)).size ≤ maxLen := Nat.le_trans (tkR_size _ _ _) hs1
  go_wp2_with fail
  go_region_with (go_at_call 55; refine (inlong_any p q 7 _ _ _ (tkR 8 (tkR 8 s e) (tkE 8 s e)) (tkE 8 (tkR 8 s e) (tkE 8 s e)) _ hs2 (rd_drew hr2) (blk_drew hb2) rfl hne).mono ?_; rintro r3 w3 ⟨rfl, hr3, hb3, hj3⟩)
  have hk3 := hk2.drew.trans (hj3.mono hk2.size)
  clear hj3
  have hs3 : (tkR 8 (tkR 8 (tkR 8 s e) (tkE 8 s e)) (tkE 8 (tkR 8 s e) (tkE 8 s e))).size ≤ maxLen := Nat.le_trans (tkR_size _ _ _) hs2
  go_wp2_with fail
  go_region_with (go_at_call 23; refine (inbyte_any p q 8 _ _ _ (tkR 8 (tkR 8 (tkR 8 s e) (tkE 8 s e)) (tkE 8 (tkR 8 s e) (tkE 8 s e))) (tkE 8 (tkR 8 (tkR 8 s e) (tkE 8 s e)) (tkE 8 (tkR 8 s e) (tkE 8 s e))) _ hs3 (rd_drew hr3) (blk_drew hb3) rfl hne).mono ?_; rintro r4 w4 ⟨rfl, hr4, hb4, hj4⟩)
  have hk4 := hk3.drew.trans (hj4.mono hk3.size)
  clear hj4
  have HK := Lib.hid hk4
  have HR := Lib.hid hr4
  have HB := Lib.hid hb4
  clear hk0 hr0 hb0 hk1 hr1 hb1 hk2 hr2 hb2 hk3 hr3 hb3 hk4 hr4 hb4
  go_wp2
  go_ret
  exact ⟨rfl, HR.out, HB.out, HK.out⟩
end Go.Proofs.Ytghgefiaijfbgaa.Rec
