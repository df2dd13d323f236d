/- What 'fields' does by a reader, at once for all kinds; what 'Take' answers: walked. Conditions: the size. -/
import Derived.Test.YtghgefiaijfbgaaRecP
import Derived.Great.BuildSlice
import Derived.Laws.CopyOwn
namespace Go.Proofs.Ytghgefiaijfbgaa.Rec
open Go.RowKit Go.Proofs.Ytghgefiaijfbgaa.Crc Go.Proofs.Ytghgefiaijfbgaa.Codec
set_option linter.unusedVariables false
set_option maxRecDepth 100000 in
/-- No such kind: nothing is passed. -/
theorem fnone (q : Nat) (r : R) (v : Value) (w : World) (hb0 : Blk w q (rc r) 27) (hk : r.kind < 1 ∨ 3 < r.kind) :
    Calls Try.prog 17 #[.pointer (some ⟨q, 0, none⟩), v] w fun e w' => e = .returned (.bool false) ∧ w = w' := by
  obtain ⟨kind, frame, own, p0, p1, seg, first, epoch, player⟩ := r
  dsimp only at hk
  have d0 := hb0.cell (off := 0) _ rfl
  dsimp only [rc] at d0
  have k1 : (kind == 1) = false := by simp; omega
  have k2 : (kind == 2) = false := by simp; omega
  have k3 : (kind == 3) = false := by simp; omega
  clear hk
  go_enter Try.func17, Try.ntmps17
  go_wp2
  go_ret
  exact ⟨rfl, rfl⟩
/-- What a reader is left with, bytes of these numbers being taken. -/
def endR : List Nat → ByteArray → Int → ByteArray × Int
  | [], s, e => (s, e)
  | j :: l, s, e => endR l (tkR j s e) (tkE j s e)
theorem endR_err (l : List Nat) (s : ByteArray) : endR l s 10 = (s, 10) := by
  induction l with
  | nil => rfl
  | cons j l ih => simp only [endR]; rw [(tk_err j s).1, (tk_err j s).2]; exact ih
theorem endR_any (l : List Nat) : ∀ m : List UInt8, endR l (bs m) 0 = if l.sum ≤ m.length then (bs (m.drop l.sum), 0) else (bs [], 10) := by
  induction l with
  | nil => intro m; simp [endR]
  | cons j l ih =>
    intro m
    have hs : (j :: l).sum = j + l.sum := List.sum_cons
    simp only [endR]
    by_cases h : j ≤ m.length
    · obtain ⟨h1, h2, _⟩ := tk_full h
      rw [h1, h2, ih, List.length_drop, List.drop_drop]
      by_cases h3 : l.sum ≤ m.length - j
      · rw [if_pos h3, if_pos (by omega), hs]
      · rw [if_neg h3, if_neg (by omega)]
    · obtain ⟨h1, h2⟩ := tk_short (Nat.lt_of_not_le h)
      rw [h1, h2, endR_err, if_neg (by omega)]
theorem rv_at {j : Nat} {m : List UInt8} (a : Nat) (h : a + j ≤ m.length) : rv j (bs (m.drop a)) 0 = V ((m.drop a).take j) := (tk_full (m := m.drop a) (by rw [List.length_drop]; omega)).2.2
theorem tk_at {j : Nat} {m : List UInt8} (a : Nat) (h : a + j ≤ m.length) : tkR j (bs (m.drop a)) 0 = bs (m.drop (a + j)) ∧ tkE j (bs (m.drop a)) 0 = 0 := by
  obtain ⟨h1, h2, _⟩ := tk_full (m := m.drop a) (j := j) (by rw [List.length_drop]; omega)
  exact ⟨by rw [h1, List.drop_drop], h2⟩
/-- A record of a kind alone. -/
def R.of (k : Nat) : R := { R.zero with kind := k }
/-- All the bytes that a kind wants are there. -/
theorem fin_full (p q k : Nat) (m : List UInt8) (w : World) (hk : 1 ≤ k ∧ k ≤ 3) (hm : m.length ≤ maxLen) (hr0 : Rd w p (bs m) 0) (hb0 : Blk w q (rc (R.of k)) 27) (hne : q ≠ p) (hn : need k ≤ m.length) :
    Calls Try.prog 17 #[.pointer (some ⟨q, 0, none⟩), .iface 60 (.agg #[.pointer (some ⟨p, 0, none⟩)])] w fun v w' => v = .returned (.bool true) ∧ Rd w' p (bs (m.drop (need k))) 0 ∧ Blk w' q (rc (rOf k m)) 27 ∧ Kq w.heap.size p q w w' := by
  have hs0 : (bs m).size ≤ maxLen := by rw [bs_size]; exact hm
  have hk' : k = 1 ∨ k = 2 ∨ k = 3 := by omega
  have e0 : bs m = bs (m.drop 0) := by rw [List.drop_zero]
  rcases hk' with rfl | rfl | rfl
  · have h9 : 9 ≤ m.length := hn
    refine (fin1 p q (R.of 1) (bs m) 0 w hs0 hr0 hb0 hne rfl).mono fun v w' ⟨h1, h2, h3, h4⟩ => ⟨h1, ?_, ?_, h4⟩
    · rw [e0, (tk_at 0 (by omega : 0 + 8 ≤ m.length)).1, (tk_at 0 (by omega : 0 + 8 ≤ m.length)).2, (tk_at 8 (by omega : 8 + 1 ≤ m.length)).1, (tk_at 8 (by omega : 8 + 1 ≤ m.length)).2] at h2
      exact h2
    · rw [e0, (tk_at 0 (by omega : 0 + 8 ≤ m.length)).1, (tk_at 0 (by omega : 0 + 8 ≤ m.length)).2, rv_at 0 (by omega), rv_at 8 (by omega)] at h3
      exact h3
  · have h9 : 10 ≤ m.length := hn
    refine (fin2 p q (R.of 2) (bs m) 0 w hs0 hr0 hb0 hne rfl).mono fun v w' ⟨h1, h2, h3, h4⟩ => ⟨h1, ?_, ?_, h4⟩
    · rw [e0, (tk_at 0 (by omega : 0 + 8 ≤ m.length)).1, (tk_at 0 (by omega : 0 + 8 ≤ m.length)).2, (tk_at 8 (by omega : 8 + 1 ≤ m.length)).1, (tk_at 8 (by omega : 8 + 1 ≤ m.length)).2, (tk_at 9 (by omega : 9 + 1 ≤ m.length)).1, (tk_at 9 (by omega : 9 + 1 ≤ m.length)).2] at h2
      exact h2
    · rw [e0, (tk_at 0 (by omega : 0 + 8 ≤ m.length)).1, (tk_at 0 (by omega : 0 + 8 ≤ m.length)).2, (tk_at 8 (by omega : 8 + 1 ≤ m.length)).1, (tk_at 8 (by omega : 8 + 1 ≤ m.length)).2, rv_at 0 (by omega), rv_at 8 (by omega), rv_at 9 (by omega)] at h3
      exact h3
  · have h9 : 25 ≤ m.length := hn
    refine (fin3 p q (R.of 3) (bs m) 0 w hs0 hr0 hb0 hne rfl).mono fun v w' ⟨h1, h2, h3, h4⟩ => ⟨h1, ?_, ?_, h4⟩
    · rw [e0, (tk_at 0 (by omega : 0 + 8 ≤ m.length)).1, (tk_at 0 (by omega : 0 + 8 ≤ m.length)).2, (tk_at 8 (by omega : 8 + 8 ≤ m.length)).1, (tk_at 8 (by omega : 8 + 8 ≤ m.length)).2, (tk_at 16 (by omega : 16 + 8 ≤ m.length)).1, (tk_at 16 (by omega : 16 + 8 ≤ m.length)).2, (tk_at 24 (by omega : 24 + 1 ≤ m.length)).1, (tk_at 24 (by omega : 24 + 1 ≤ m.length)).2] at h2
      exact h2
    · rw [e0, (tk_at 0 (by omega : 0 + 8 ≤ m.length)).1, (tk_at 0 (by omega : 0 + 8 ≤ m.length)).2, (tk_at 8 (by omega : 8 + 8 ≤ m.length)).1, (tk_at 8 (by omega : 8 + 8 ≤ m.length)).2, (tk_at 16 (by omega : 16 + 8 ≤ m.length)).1, (tk_at 16 (by omega : 16 + 8 ≤ m.length)).2, rv_at 0 (by omega), rv_at 8 (by omega), rv_at 16 (by omega), rv_at 24 (by omega)] at h3
      exact h3
/-- Some bytes that a kind wants are missing. -/
theorem fin_short (p q k : Nat) (m : List UInt8) (w : World) (hk : 1 ≤ k ∧ k ≤ 3) (hm : m.length ≤ maxLen) (hr0 : Rd w p (bs m) 0) (hb0 : Blk w q (rc (R.of k)) 27) (hne : q ≠ p) (hn : m.length < need k) :
    Calls Try.prog 17 #[.pointer (some ⟨q, 0, none⟩), .iface 60 (.agg #[.pointer (some ⟨p, 0, none⟩)])] w fun v w' => v = .returned (.bool true) ∧ Rd w' p (bs []) 10 ∧ Kq w.heap.size p q w w' := by
  have hs0 : (bs m).size ≤ maxLen := by rw [bs_size]; exact hm
  have hk' : k = 1 ∨ k = 2 ∨ k = 3 := by omega
  rcases hk' with rfl | rfl | rfl
  · have he := endR_any [8, 1] m
    rw [if_neg (by simp; simp [need] at hn; omega)] at he
    refine (fin1 p q (R.of 1) (bs m) 0 w hs0 hr0 hb0 hne rfl).mono fun v w' ⟨h1, h2, h3, h4⟩ => ⟨h1, ?_, h4⟩
    rw [show tkR 1 (tkR 8 (bs m) 0) (tkE 8 (bs m) 0) = bs [] from congrArg Prod.fst he, show tkE 1 (tkR 8 (bs m) 0) (tkE 8 (bs m) 0) = 10 from congrArg Prod.snd he] at h2
    exact h2
  · have he := endR_any [8, 1, 1] m
    rw [if_neg (by simp; simp [need] at hn; omega)] at he
    refine (fin2 p q (R.of 2) (bs m) 0 w hs0 hr0 hb0 hne rfl).mono fun v w' ⟨h1, h2, h3, h4⟩ => ⟨h1, ?_, h4⟩
    have e1 := congrArg Prod.fst he
    have e2 := congrArg Prod.snd he
    simp only [endR] at e1 e2
    rw [e1, e2] at h2
    exact h2
  · have he := endR_any [8, 8, 8, 1] m
    rw [if_neg (by simp; simp [need] at hn; omega)] at he
    refine (fin3 p q (R.of 3) (bs m) 0 w hs0 hr0 hb0 hne rfl).mono fun v w' ⟨h1, h2, h3, h4⟩ => ⟨h1, ?_, h4⟩
    have e1 := congrArg Prod.fst he
    have e2 := congrArg Prod.snd he
    simp only [endR] at e1 e2
    rw [e1, e2] at h2
    exact h2
theorem Below.trodK {B : Nat} {a w w' : World} {p q C : Nat} (h : Below B a w) (hk : Kq C p q w w') (h1 : B ≤ C) (hp : B ≤ p) (hq : B ≤ q) : Below B a w' :=
  h.trans ⟨hk.os, hk.tape, hk.output, hk.size, fun k hkB => hk.block k (by omega) (by omega) (by omega)⟩
theorem rc_all (r : R) : (rc r).all (·.oneCell') = true := by simp [rc, Value.oneCell']
theorem rc_info (r : R) : (Try.prog.info? 27).map (·.size) = some (rc r).size := by kernel_rfl
/-- A whole record is stored. -/
theorem store_rec {ops : Array Oper} {rest : List Oper} {op : Oper} {a : Act} {w : World} {Q : Exit → Act → World → Prop} (x y : Operand) (g : Nat) (r0 r : R) (hb : Blk w g (rc r0) 27) (hgd : op.guard = none) (ho : op.op = .store 27 x y)
    (hd : op.dst = none) (hx : a.eval x = .pointer (some ⟨g, 0, none⟩)) (hy : a.eval y = .agg (rc r)) (h : wpList Try.prog ops Q rest a (w.setRow g (rc r))) : wpList Try.prog ops Q (op :: rest) a w :=
  wpList_store_rowTo hgd 27 x y ho hd g (rc r) hx hy 27 (rc r0) hb (rc_info r) rfl (rc_all r) h
/-- A whole record is read. -/
theorem load_rec {ops : Array Oper} {rest : List Oper} {op : Oper} {a : Act} {w : World} {Q : Exit → Act → World → Prop} (x : Operand) (g : Nat) (r : R) (hb : Blk w g (rc r) 27) (hgd : op.guard = none) (ho : op.op = .load 27 x)
    (hx : a.eval x = .pointer (some ⟨g, 0, none⟩)) (h : wpList Try.prog ops Q rest (a.put op.dst (.agg (rc r))) w) : wpList Try.prog ops Q (op :: rest) a w :=
  wpList_load_row hgd 27 x ho g hx 27 (rc r) (0, 0) _ hb Try.underlying27 rfl (rc_info r) h
/-- The same under a guard that says yes. -/
theorem load_recg {ops : Array Oper} {rest : List Oper} {op : Oper} {a : Act} {w : World} {Q : Exit → Act → World → Prop} (x : Operand) (g : Nat) (r : R) (hb : Blk w g (rc r) 27) (hgd : Region.wanted op (yielded ops a.tmps) = true) (ho : op.op = .load 27 x)
    (hx : a.eval x = .pointer (some ⟨g, 0, none⟩)) (h : wpList Try.prog ops Q rest (a.put op.dst (.agg (rc r))) w) : wpList Try.prog ops Q (op :: rest) a w := by
  unfold wpList
  rw [if_pos hgd]
  exact .inl (wp_load_row 27 x ho g hx 27 (rc r) (0, 0) _ hb Try.underlying27 rfl (rc_info r) h)
theorem end_take {W : World} {g : Nat} {r : R} {e : Int} (tmps : Array Value) (h2 : tmps.getD 2 undef = .pointer (some ⟨g, 0, none⟩)) (h3 : tmps.getD 3 undef = .int .i64 e) (hb : Blk W g (rc r) 27) :
    (results Try.f10 tmps).run Try.prog W = .ok (.tuple #[.agg (rc r), .int .i64 e]) W := by
  rw [results_cell_tmp (p := 2) (u := 3) (ty := 27) rfl, h2, h3]
  show Result.andThen (.ok (⟨g, 0, none⟩ : Addr) W) _ = _
  rw [Result.andThen_ok, run_loadVar_row W g _ 27 (rc r) (0, 0) _ hb Try.underlying27 rfl (by kernel_rfl), Result.andThen_ok]
set_option maxRecDepth 100000 in
/-- What 'Take' answers: no bytes. -/
theorem take_nil (w : World) :
    Calls Try.prog 10 #[.string (bs [])] w fun r w' => r = .returned (.tuple #[.agg (rc R.zero), .int .i64 10]) ∧ Below w.heap.size w w' := by
  rw [show bs [] = ⟨#[]⟩ from rfl]
  go_enter Try.func10, Try.ntmps10
  go_wp2
  exact bodyPost_ret (v := .tuple #[.agg (rc R.zero), .int .i64 10]) (by simp [results, Try.results10, go_sem, rc, R.zero]) rfl ⟨rfl, (Below.refl _ _).alloc (Nat.le_refl _) _⟩
set_option maxRecDepth 100000 in
/-- What 'Take' answers: no such kind. -/
theorem take_form (b : UInt8) (m : List UInt8) (w : World) (hm : m.length < maxLen) (hb : b.toNat < 1 ∨ 3 < b.toNat) :
    Calls Try.prog 10 #[.string (bs (b :: m))] w fun r w' => r = .returned (.tuple #[.agg (rc R.zero), .int .i64 4]) ∧ Below w.heap.size w w' := by
  have hs : (bs (b :: m)).size ≤ maxLen := by rw [bs_size]; exact hm
  have hbt : b.toNat < 256 := b.toNat_lt
  obtain ⟨k, hk⟩ : ∃ k, k = b.toNat := ⟨_, rfl⟩
  obtain ⟨t1, t2, t3⟩ := tk_full (j := 1) (m := b :: m) (by simp)
  have t3' : V (tkS 1 (bs (b :: m)) 0).data.toList = k := by rw [hk]; exact t3.trans (by simp [V])
  have hne : ((bs (b :: m)).toList == ([] : List UInt8)) = false := by rw [ByteArray.toList_eq, bs_toList]; rfl
  rw [← hk] at hbt hb
  obtain ⟨s, hse⟩ : ∃ s, s = bs (b :: m) := ⟨_, rfl⟩
  rw [← hse] at hs t1 t2 t3' hne ⊢
  have hne1 : s.toList ≠ [] := by intro e; rw [e] at hne; cases hne
  have hne2 : (!s.toList.isEmpty) = true := by cases h : s.toList with | nil => exact absurd h hne1 | cons x y => rfl
  have hne3 : s.toList.isEmpty = false := by cases h : s.toList with | nil => exact absurd h hne1 | cons x y => rfl
  have T1 := Lib.hid t1
  have T2 := Lib.hid t2
  have T3 := Lib.hid t3'
  clear t1 t2 t3 t3' hse hk
  go_enter Try.func10, Try.ntmps10
  go_wp2_with fail
  refine (new_any s _).mono ?_
  rintro r w1 ⟨rfl, hr1, hb1, hz1⟩
  have hB1 : Below w.heap.size w w1 := ((Below.refl _ w).alloc (Nat.le_refl _) _).trans (hb1.mono (by simp))
  have hz : w1.heap.size = w.heap.size + 2 := by rw [hz1]; simp
  have hr1' : Rd w1 (w.heap.size + 1) s 0 := by simpa using hr1
  have hres : Blk w1 w.heap.size (rc R.zero) 27 := (hb1.block _ (by simp)).trans (heap_alloc_new w _)
  have HZ := Lib.hid hz
  clear hr1 hb1 hz1 hz
  go_wp2_with fail
  refine (inbyte_any (w.heap.size + 1) (w1.heap.size + 1) 0 #[.int .u8 0] 5 (.int .u8 0) s 0 _ hs (Rd.alloc (Rd.alloc hr1' _) _) (by have := heap_alloc_new (w1.alloc (.cells #[.pointer (some ⟨w.heap.size + 1, 0, none⟩)] 60)) (.cells #[.int .u8 0] 5); simpa [Blk] using this) rfl (by have := HZ.out; omega)).mono ?_
  rintro r w2 ⟨rfl, hr2, hb2, hk2⟩
  rw [T1.out, T2.out] at hr2
  rw [T3.out] at hb2
  have hz := HZ.out
  have hb2' : Blk w2 (w1.heap.size + 1) #[.int .u8 k] 5 := hb2
  have hi2 : Blk w2 w1.heap.size #[.pointer (some ⟨w.heap.size + 1, 0, none⟩)] 60 :=
    (hk2.block _ (by simp; omega) (by omega) (by omega)).trans (by have := heap_alloc2_old w1 (.cells #[.pointer (some ⟨w.heap.size + 1, 0, none⟩)] 60) (.cells #[.int .u8 0] 5); exact this)
  have hres2 : Blk w2 w.heap.size (rc R.zero) 27 := (hk2.block _ (by simp; omega) (by omega) (by omega)).trans ((hres.alloc _).alloc _)
  have hB2 : Below w.heap.size w w2 := Below.trodK ((hB1.alloc (by omega) _).alloc (by simp; omega) _) hk2 (by simp; omega) (by omega) (by omega)
  have hz2 : w1.heap.size + 2 ≤ w2.heap.size := by have := hk2.size; simp at this; exact this
  have ck : w2.cell? ⟨w1.heap.size + 1, 0, none⟩ = some (.int .u8 k) := hb2'.cell _ rfl
  have ci : w2.cell? ⟨w1.heap.size, 0, none⟩ = some (.pointer (some ⟨w.heap.size + 1, 0, none⟩)) := hi2.cell _ rfl
  clear hb2 hk2 hr1' hres hB1 hz
  have l1 : w1.heap.size < w2.heap.size := by omega
  have l0 : w.heap.size < w2.heap.size := by have := HZ.out; omega
  clear hz2
  go_wp2_with fail
  refine (fnone _ (R.of k) _ _ (heap_alloc_new w2 _) (by show (k : Int) < 1 ∨ 3 < (k : Int); omega)).mono ?_
  rintro r w3 ⟨rfl, rfl⟩
  have hres3 := hres2.alloc (.cells (rc (R.of k)) 27)
  have hB3 := hB2.alloc (Nat.le_of_lt l0) (.cells (rc (R.of k)) 27)
  go_wp2_with (refine store_rec (.tmp 2) (.tmp 23) w.heap.size R.zero R.zero hres3 rfl rfl rfl rfl rfl ?_)
  exact bodyPost_ret (v := .tuple #[.agg (rc R.zero), .int .i64 4]) (end_take _ rfl rfl (setRow_heap _ _ _ _ _ _ hres3)) rfl ⟨rfl, below_setRow hB3 (Nat.le_refl _) _⟩
set_option maxRecDepth 100000 in
/-- What 'Take' answers: bytes are missing. -/
theorem take_short (b : UInt8) (m : List UInt8) (w : World) (hm : m.length < maxLen) (hb : 1 ≤ b.toNat ∧ b.toNat ≤ 3) (hn : m.length < need b.toNat) :
    Calls Try.prog 10 #[.string (bs (b :: m))] w fun r w' => r = .returned (.tuple #[.agg (rc R.zero), .int .i64 10]) ∧ Below w.heap.size w w' := by
  have hs : (bs (b :: m)).size ≤ maxLen := by rw [bs_size]; exact hm
  have hbt : b.toNat < 256 := b.toNat_lt
  obtain ⟨k, hk⟩ : ∃ k, k = b.toNat := ⟨_, rfl⟩
  obtain ⟨t1, t2, t3⟩ := tk_full (j := 1) (m := b :: m) (by simp)
  have t3' : V (tkS 1 (bs (b :: m)) 0).data.toList = k := by rw [hk]; exact t3.trans (by simp [V])
  have hne : ((bs (b :: m)).toList == ([] : List UInt8)) = false := by rw [ByteArray.toList_eq, bs_toList]; rfl
  rw [← hk] at hbt hb hn
  obtain ⟨s, hse⟩ : ∃ s, s = bs (b :: m) := ⟨_, rfl⟩
  rw [← hse] at hs t1 t2 t3' hne ⊢
  have hne1 : s.toList ≠ [] := by intro e; rw [e] at hne; cases hne
  have hne2 : (!s.toList.isEmpty) = true := by cases h : s.toList with | nil => exact absurd h hne1 | cons x y => rfl
  have hne3 : s.toList.isEmpty = false := by cases h : s.toList with | nil => exact absurd h hne1 | cons x y => rfl
  have T1 := Lib.hid t1
  have T2 := Lib.hid t2
  have T3 := Lib.hid t3'
  clear t1 t2 t3 t3' hse hk
  go_enter Try.func10, Try.ntmps10
  go_wp2_with fail
  refine (new_any s _).mono ?_
  rintro r w1 ⟨rfl, hr1, hb1, hz1⟩
  have hB1 : Below w.heap.size w w1 := ((Below.refl _ w).alloc (Nat.le_refl _) _).trans (hb1.mono (by simp))
  have hz : w1.heap.size = w.heap.size + 2 := by rw [hz1]; simp
  have hr1' : Rd w1 (w.heap.size + 1) s 0 := by simpa using hr1
  have hres : Blk w1 w.heap.size (rc R.zero) 27 := (hb1.block _ (by simp)).trans (heap_alloc_new w _)
  have HZ := Lib.hid hz
  clear hr1 hb1 hz1 hz
  go_wp2_with fail
  refine (inbyte_any (w.heap.size + 1) (w1.heap.size + 1) 0 #[.int .u8 0] 5 (.int .u8 0) s 0 _ hs (Rd.alloc (Rd.alloc hr1' _) _) (by have := heap_alloc_new (w1.alloc (.cells #[.pointer (some ⟨w.heap.size + 1, 0, none⟩)] 60)) (.cells #[.int .u8 0] 5); simpa [Blk] using this) rfl (by have := HZ.out; omega)).mono ?_
  rintro r w2 ⟨rfl, hr2, hb2, hk2⟩
  rw [T1.out, T2.out] at hr2
  rw [T3.out] at hb2
  have hz := HZ.out
  have hb2' : Blk w2 (w1.heap.size + 1) #[.int .u8 k] 5 := hb2
  have hi2 : Blk w2 w1.heap.size #[.pointer (some ⟨w.heap.size + 1, 0, none⟩)] 60 :=
    (hk2.block _ (by simp; omega) (by omega) (by omega)).trans (by have := heap_alloc2_old w1 (.cells #[.pointer (some ⟨w.heap.size + 1, 0, none⟩)] 60) (.cells #[.int .u8 0] 5); exact this)
  have hres2 : Blk w2 w.heap.size (rc R.zero) 27 := (hk2.block _ (by simp; omega) (by omega) (by omega)).trans ((hres.alloc _).alloc _)
  have hB2 : Below w.heap.size w w2 := Below.trodK ((hB1.alloc (by omega) _).alloc (by simp; omega) _) hk2 (by simp; omega) (by omega) (by omega)
  have hz2 : w1.heap.size + 2 ≤ w2.heap.size := by have := hk2.size; simp at this; exact this
  have ck : w2.cell? ⟨w1.heap.size + 1, 0, none⟩ = some (.int .u8 k) := hb2'.cell _ rfl
  have ci : w2.cell? ⟨w1.heap.size, 0, none⟩ = some (.pointer (some ⟨w.heap.size + 1, 0, none⟩)) := hi2.cell _ rfl
  clear hb2 hk2 hr1' hres hB1 hz
  have l1 : w1.heap.size < w2.heap.size := by omega
  have l0 : w.heap.size < w2.heap.size := by have := HZ.out; omega
  clear hz2
  go_wp2_with fail
  have hres3 := hres2.alloc (.cells (rc (R.of k)) 27)
  have hi3 := hi2.alloc (.cells (rc (R.of k)) 27)
  have hr3 := Rd.alloc hr2 (.cells (rc (R.of k)) 27)
  have hB3 := hB2.alloc (Nat.le_of_lt l0) (.cells (rc (R.of k)) 27)
  have hr0 := HZ.out
  refine (fin_short (w.heap.size + 1) w2.heap.size k m _ hb (by unfold maxLen at *; omega) hr3 (heap_alloc_new w2 _) (by omega) hn).mono ?_
  rintro r w3 ⟨rfl, hr4, hk4⟩
  have hres4 : Blk w3 w.heap.size (rc R.zero) 27 := (hk4.block _ (by simp; omega) (by omega) (by omega)).trans hres3
  have hi4 : Blk w3 w1.heap.size #[.pointer (some ⟨w.heap.size + 1, 0, none⟩)] 60 := (hk4.block _ (by simp; omega) (by omega) (by omega)).trans hi3
  have hB4 : Below w.heap.size w w3 := Below.trodK hB3 hk4 (by simp; omega) (by omega) (by omega)
  have ci4 : w3.cell? ⟨w1.heap.size, 0, none⟩ = some (.pointer (some ⟨w.heap.size + 1, 0, none⟩)) := hi4.cell _ rfl
  clear hres2 hi2 hr2 hB2 hres3 hi3 hr3 hB3 hk4 hr0 ck ci hb2' l1 l0
  go_wp2_with fail
  refine (err_any (w.heap.size + 1) _ _ _ hr4).mono ?_
  rintro r w' ⟨rfl, rfl⟩
  go_wp2_with (refine store_rec (.tmp 2) (.tmp 29) w.heap.size R.zero R.zero hres4 rfl rfl rfl rfl rfl ?_)
  exact bodyPost_ret (v := .tuple #[.agg (rc R.zero), .int .i64 10]) (end_take _ rfl rfl (setRow_heap _ _ _ _ _ _ hres4)) rfl ⟨rfl, below_setRow hB4 (Nat.le_refl _) _⟩
set_option maxRecDepth 100000 in
/-- What 'Take' answers: the bytes are a record. -/
theorem take_right (b : UInt8) (m : List UInt8) (w : World) (hm : m.length < maxLen) (hb : 1 ≤ b.toNat ∧ b.toNat ≤ 3) (hn : m.length = need b.toNat) (hrr : (rOf b.toNat m).right = true) :
    Calls Try.prog 10 #[.string (bs (b :: m))] w fun r w' => r = .returned (.tuple #[.agg (rc (rOf b.toNat m)), .int .i64 0]) ∧ Below w.heap.size w w' := by
  have hs : (bs (b :: m)).size ≤ maxLen := by rw [bs_size]; exact hm
  have hbt : b.toNat < 256 := b.toNat_lt
  obtain ⟨k, hk⟩ : ∃ k, k = b.toNat := ⟨_, rfl⟩
  obtain ⟨t1, t2, t3⟩ := tk_full (j := 1) (m := b :: m) (by simp)
  have t3' : V (tkS 1 (bs (b :: m)) 0).data.toList = k := by rw [hk]; exact t3.trans (by simp [V])
  have hne : ((bs (b :: m)).toList == ([] : List UInt8)) = false := by rw [ByteArray.toList_eq, bs_toList]; rfl
  rw [← hk] at hbt hb hn hrr ⊢
  obtain ⟨s, hse⟩ : ∃ s, s = bs (b :: m) := ⟨_, rfl⟩
  rw [← hse] at hs t1 t2 t3' hne ⊢
  have hne1 : s.toList ≠ [] := by intro e; rw [e] at hne; cases hne
  have hne2 : (!s.toList.isEmpty) = true := by cases h : s.toList with | nil => exact absurd h hne1 | cons x y => rfl
  have hne3 : s.toList.isEmpty = false := by cases h : s.toList with | nil => exact absurd h hne1 | cons x y => rfl
  have T1 := Lib.hid t1
  have T2 := Lib.hid t2
  have T3 := Lib.hid t3'
  clear t1 t2 t3 t3' hse hk
  go_enter Try.func10, Try.ntmps10
  go_wp2_with fail
  refine (new_any s _).mono ?_
  rintro r w1 ⟨rfl, hr1, hb1, hz1⟩
  have hB1 : Below w.heap.size w w1 := ((Below.refl _ w).alloc (Nat.le_refl _) _).trans (hb1.mono (by simp))
  have hz : w1.heap.size = w.heap.size + 2 := by rw [hz1]; simp
  have hr1' : Rd w1 (w.heap.size + 1) s 0 := by simpa using hr1
  have hres : Blk w1 w.heap.size (rc R.zero) 27 := (hb1.block _ (by simp)).trans (heap_alloc_new w _)
  have HZ := Lib.hid hz
  clear hr1 hb1 hz1 hz
  go_wp2_with fail
  refine (inbyte_any (w.heap.size + 1) (w1.heap.size + 1) 0 #[.int .u8 0] 5 (.int .u8 0) s 0 _ hs (Rd.alloc (Rd.alloc hr1' _) _) (by have := heap_alloc_new (w1.alloc (.cells #[.pointer (some ⟨w.heap.size + 1, 0, none⟩)] 60)) (.cells #[.int .u8 0] 5); simpa [Blk] using this) rfl (by have := HZ.out; omega)).mono ?_
  rintro r w2 ⟨rfl, hr2, hb2, hk2⟩
  rw [T1.out, T2.out] at hr2
  rw [T3.out] at hb2
  have hz := HZ.out
  have hb2' : Blk w2 (w1.heap.size + 1) #[.int .u8 k] 5 := hb2
  have hi2 : Blk w2 w1.heap.size #[.pointer (some ⟨w.heap.size + 1, 0, none⟩)] 60 :=
    (hk2.block _ (by simp; omega) (by omega) (by omega)).trans (by have := heap_alloc2_old w1 (.cells #[.pointer (some ⟨w.heap.size + 1, 0, none⟩)] 60) (.cells #[.int .u8 0] 5); exact this)
  have hres2 : Blk w2 w.heap.size (rc R.zero) 27 := (hk2.block _ (by simp; omega) (by omega) (by omega)).trans ((hres.alloc _).alloc _)
  have hB2 : Below w.heap.size w w2 := Below.trodK ((hB1.alloc (by omega) _).alloc (by simp; omega) _) hk2 (by simp; omega) (by omega) (by omega)
  have hz2 : w1.heap.size + 2 ≤ w2.heap.size := by have := hk2.size; simp at this; exact this
  have ck : w2.cell? ⟨w1.heap.size + 1, 0, none⟩ = some (.int .u8 k) := hb2'.cell _ rfl
  have ci : w2.cell? ⟨w1.heap.size, 0, none⟩ = some (.pointer (some ⟨w.heap.size + 1, 0, none⟩)) := hi2.cell _ rfl
  clear hb2 hk2 hr1' hres hB1 hz
  have l1 : w1.heap.size < w2.heap.size := by omega
  have l0 : w.heap.size < w2.heap.size := by have := HZ.out; omega
  clear hz2
  go_wp2_with fail
  have hres3 := hres2.alloc (.cells (rc (R.of k)) 27)
  have hi3 := hi2.alloc (.cells (rc (R.of k)) 27)
  have hr3 := Rd.alloc hr2 (.cells (rc (R.of k)) 27)
  have hB3 := hB2.alloc (Nat.le_of_lt l0) (.cells (rc (R.of k)) 27)
  have hr0 := HZ.out
  refine (fin_full (w.heap.size + 1) w2.heap.size k m _ hb (by unfold maxLen at *; omega) hr3 (heap_alloc_new w2 _) (by omega) (by omega)).mono ?_
  rintro r w3 ⟨rfl, hr4, hq4, hk4⟩
  have hres4 : Blk w3 w.heap.size (rc R.zero) 27 := (hk4.block _ (by simp; omega) (by omega) (by omega)).trans hres3
  have hi4 : Blk w3 w1.heap.size #[.pointer (some ⟨w.heap.size + 1, 0, none⟩)] 60 := (hk4.block _ (by simp; omega) (by omega) (by omega)).trans hi3
  have hB4 : Below w.heap.size w w3 := Below.trodK hB3 hk4 (by simp; omega) (by omega) (by omega)
  have ci4 : w3.cell? ⟨w1.heap.size, 0, none⟩ = some (.pointer (some ⟨w.heap.size + 1, 0, none⟩)) := hi4.cell _ rfl
  have hz3 : w.heap.size ≤ w3.heap.size := hB4.size
  clear hres2 hi2 hr2 hB2 hres3 hi3 hr3 hB3 hk4 hr0 ck ci hb2' l1 l0
  go_wp2_with fail
  refine (err_any (w.heap.size + 1) _ _ _ hr4).mono ?_
  rintro r w' ⟨rfl, rfl⟩
  go_wp2_with fail
  refine (rest_any (w.heap.size + 1) _ _ _ hr4).mono ?_
  rintro r w' ⟨rfl, rfl⟩
  have hd : m.drop (need k) = [] := List.drop_of_length_le (by omega)
  rw [hd, show bs [] = ⟨#[]⟩ from rfl]
  have hw := rOf_wf k m
  have hR := right_any (rOf k m) w3 hw
  generalize hE : rOf k m = rr at *
  rw [hrr] at hR
  have HR := Lib.hid hR
  have HE := Lib.hid hE
  clear hR hd hn hw hr4 hi4 hrr hE
  go_wp2_with (refine load_recg (.tmp 6) w2.heap.size rr hq4 rfl rfl rfl ?_)
  refine HR.out.mono ?_
  rintro r w4 ⟨rfl, hb4⟩
  have hres5 : Blk w4 w.heap.size (rc R.zero) 27 := (hb4.block _ hres4.lt).trans hres4
  have hq5 : Blk w4 w2.heap.size (rc rr) 27 := (hb4.block _ hq4.lt).trans hq4
  have hB5 := hB4.trans (hb4.mono hz3)
  clear hres4 hq4 hB4 hb4 ci4
  go_wp2_with (first | (refine store_rec (.tmp 2) (.tmp 41) w.heap.size R.zero rr hres5 rfl rfl rfl rfl rfl ?_) | (refine load_rec (.tmp 6) w2.heap.size rr hq5 rfl rfl rfl ?_))
  exact bodyPost_ret (v := .tuple #[.agg (rc rr), .int .i64 0]) (end_take _ rfl rfl (setRow_heap _ _ _ _ _ _ hres5)) rfl ⟨by rw [HE.out], below_setRow hB5 (Nat.le_refl _) _⟩
set_option maxRecDepth 100000 in
/-- What 'Take' answers: a field may not be. -/
theorem take_wrong (b : UInt8) (m : List UInt8) (w : World) (hm : m.length < maxLen) (hb : 1 ≤ b.toNat ∧ b.toNat ≤ 3) (hn : m.length = need b.toNat) (hrr : (rOf b.toNat m).right = false) :
    Calls Try.prog 10 #[.string (bs (b :: m))] w fun r w' => r = .returned (.tuple #[.agg (rc R.zero), .int .i64 4]) ∧ Below w.heap.size w w' := by
  have hs : (bs (b :: m)).size ≤ maxLen := by rw [bs_size]; exact hm
  have hbt : b.toNat < 256 := b.toNat_lt
  obtain ⟨k, hk⟩ : ∃ k, k = b.toNat := ⟨_, rfl⟩
  obtain ⟨t1, t2, t3⟩ := tk_full (j := 1) (m := b :: m) (by simp)
  have t3' : V (tkS 1 (bs (b :: m)) 0).data.toList = k := by rw [hk]; exact t3.trans (by simp [V])
  have hne : ((bs (b :: m)).toList == ([] : List UInt8)) = false := by rw [ByteArray.toList_eq, bs_toList]; rfl
  rw [← hk] at hbt hb hn hrr
  obtain ⟨s, hse⟩ : ∃ s, s = bs (b :: m) := ⟨_, rfl⟩
  rw [← hse] at hs t1 t2 t3' hne ⊢
  have hne1 : s.toList ≠ [] := by intro e; rw [e] at hne; cases hne
  have hne2 : (!s.toList.isEmpty) = true := by cases h : s.toList with | nil => exact absurd h hne1 | cons x y => rfl
  have hne3 : s.toList.isEmpty = false := by cases h : s.toList with | nil => exact absurd h hne1 | cons x y => rfl
  have T1 := Lib.hid t1
  have T2 := Lib.hid t2
  have T3 := Lib.hid t3'
  clear t1 t2 t3 t3' hse hk
  go_enter Try.func10, Try.ntmps10
  go_wp2_with fail
  refine (new_any s _).mono ?_
  rintro r w1 ⟨rfl, hr1, hb1, hz1⟩
  have hB1 : Below w.heap.size w w1 := ((Below.refl _ w).alloc (Nat.le_refl _) _).trans (hb1.mono (by simp))
  have hz : w1.heap.size = w.heap.size + 2 := by rw [hz1]; simp
  have hr1' : Rd w1 (w.heap.size + 1) s 0 := by simpa using hr1
  have hres : Blk w1 w.heap.size (rc R.zero) 27 := (hb1.block _ (by simp)).trans (heap_alloc_new w _)
  have HZ := Lib.hid hz
  clear hr1 hb1 hz1 hz
  go_wp2_with fail
  refine (inbyte_any (w.heap.size + 1) (w1.heap.size + 1) 0 #[.int .u8 0] 5 (.int .u8 0) s 0 _ hs (Rd.alloc (Rd.alloc hr1' _) _) (by have := heap_alloc_new (w1.alloc (.cells #[.pointer (some ⟨w.heap.size + 1, 0, none⟩)] 60)) (.cells #[.int .u8 0] 5); simpa [Blk] using this) rfl (by have := HZ.out; omega)).mono ?_
  rintro r w2 ⟨rfl, hr2, hb2, hk2⟩
  rw [T1.out, T2.out] at hr2
  rw [T3.out] at hb2
  have hz := HZ.out
  have hb2' : Blk w2 (w1.heap.size + 1) #[.int .u8 k] 5 := hb2
  have hi2 : Blk w2 w1.heap.size #[.pointer (some ⟨w.heap.size + 1, 0, none⟩)] 60 :=
    (hk2.block _ (by simp; omega) (by omega) (by omega)).trans (by have := heap_alloc2_old w1 (.cells #[.pointer (some ⟨w.heap.size + 1, 0, none⟩)] 60) (.cells #[.int .u8 0] 5); exact this)
  have hres2 : Blk w2 w.heap.size (rc R.zero) 27 := (hk2.block _ (by simp; omega) (by omega) (by omega)).trans ((hres.alloc _).alloc _)
  have hB2 : Below w.heap.size w w2 := Below.trodK ((hB1.alloc (by omega) _).alloc (by simp; omega) _) hk2 (by simp; omega) (by omega) (by omega)
  have hz2 : w1.heap.size + 2 ≤ w2.heap.size := by have := hk2.size; simp at this; exact this
  have ck : w2.cell? ⟨w1.heap.size + 1, 0, none⟩ = some (.int .u8 k) := hb2'.cell _ rfl
  have ci : w2.cell? ⟨w1.heap.size, 0, none⟩ = some (.pointer (some ⟨w.heap.size + 1, 0, none⟩)) := hi2.cell _ rfl
  clear hb2 hk2 hr1' hres hB1 hz
  have l1 : w1.heap.size < w2.heap.size := by omega
  have l0 : w.heap.size < w2.heap.size := by have := HZ.out; omega
  clear hz2
  go_wp2_with fail
  have hres3 := hres2.alloc (.cells (rc (R.of k)) 27)
  have hi3 := hi2.alloc (.cells (rc (R.of k)) 27)
  have hr3 := Rd.alloc hr2 (.cells (rc (R.of k)) 27)
  have hB3 := hB2.alloc (Nat.le_of_lt l0) (.cells (rc (R.of k)) 27)
  have hr0 := HZ.out
  refine (fin_full (w.heap.size + 1) w2.heap.size k m _ hb (by unfold maxLen at *; omega) hr3 (heap_alloc_new w2 _) (by omega) (by omega)).mono ?_
  rintro r w3 ⟨rfl, hr4, hq4, hk4⟩
  have hres4 : Blk w3 w.heap.size (rc R.zero) 27 := (hk4.block _ (by simp; omega) (by omega) (by omega)).trans hres3
  have hi4 : Blk w3 w1.heap.size #[.pointer (some ⟨w.heap.size + 1, 0, none⟩)] 60 := (hk4.block _ (by simp; omega) (by omega) (by omega)).trans hi3
  have hB4 : Below w.heap.size w w3 := Below.trodK hB3 hk4 (by simp; omega) (by omega) (by omega)
  have ci4 : w3.cell? ⟨w1.heap.size, 0, none⟩ = some (.pointer (some ⟨w.heap.size + 1, 0, none⟩)) := hi4.cell _ rfl
  have hz3 : w.heap.size ≤ w3.heap.size := hB4.size
  clear hres2 hi2 hr2 hB2 hres3 hi3 hr3 hB3 hk4 hr0 ck ci hb2' l1 l0
  go_wp2_with fail
  refine (err_any (w.heap.size + 1) _ _ _ hr4).mono ?_
  rintro r w' ⟨rfl, rfl⟩
  go_wp2_with fail
  refine (rest_any (w.heap.size + 1) _ _ _ hr4).mono ?_
  rintro r w' ⟨rfl, rfl⟩
  have hd : m.drop (need k) = [] := List.drop_of_length_le (by omega)
  rw [hd, show bs [] = ⟨#[]⟩ from rfl]
  have hw := rOf_wf k m
  have hR := right_any (rOf k m) w3 hw
  generalize hE : rOf k m = rr at *
  rw [hrr] at hR
  have HR := Lib.hid hR
  have HE := Lib.hid hE
  clear hR hd hn hw hr4 hi4 hrr hE
  go_wp2_with (refine load_recg (.tmp 6) w2.heap.size rr hq4 rfl rfl rfl ?_)
  refine HR.out.mono ?_
  rintro r w4 ⟨rfl, hb4⟩
  have hres5 : Blk w4 w.heap.size (rc R.zero) 27 := (hb4.block _ hres4.lt).trans hres4
  have hq5 : Blk w4 w2.heap.size (rc rr) 27 := (hb4.block _ hq4.lt).trans hq4
  have hB5 := hB4.trans (hb4.mono hz3)
  clear hres4 hq4 hB4 hb4 ci4
  go_wp2_with (refine store_rec (.tmp 2) (.tmp 40) w.heap.size R.zero R.zero hres5 rfl rfl rfl rfl rfl ?_)
  exact bodyPost_ret (v := .tuple #[.agg (rc R.zero), .int .i64 4]) (end_take _ rfl rfl (setRow_heap _ _ _ _ _ _ hres5)) rfl ⟨rfl, below_setRow hB5 (Nat.le_refl _) _⟩
set_option maxRecDepth 100000 in
/-- What 'Take' answers: there are more bytes. -/
theorem take_long (b : UInt8) (m : List UInt8) (w : World) (hm : m.length < maxLen) (hb : 1 ≤ b.toNat ∧ b.toNat ≤ 3) (hn : need b.toNat < m.length) :
    Calls Try.prog 10 #[.string (bs (b :: m))] w fun r w' => r = .returned (.tuple #[.agg (rc R.zero), .int .i64 4]) ∧ Below w.heap.size w w' := by
  have hs : (bs (b :: m)).size ≤ maxLen := by rw [bs_size]; exact hm
  have hbt : b.toNat < 256 := b.toNat_lt
  obtain ⟨k, hk⟩ : ∃ k, k = b.toNat := ⟨_, rfl⟩
  obtain ⟨t1, t2, t3⟩ := tk_full (j := 1) (m := b :: m) (by simp)
  have t3' : V (tkS 1 (bs (b :: m)) 0).data.toList = k := by rw [hk]; exact t3.trans (by simp [V])
  have hne : ((bs (b :: m)).toList == ([] : List UInt8)) = false := by rw [ByteArray.toList_eq, bs_toList]; rfl
  rw [← hk] at hbt hb hn
  obtain ⟨s, hse⟩ : ∃ s, s = bs (b :: m) := ⟨_, rfl⟩
  rw [← hse] at hs t1 t2 t3' hne ⊢
  have hne1 : s.toList ≠ [] := by intro e; rw [e] at hne; cases hne
  have hne2 : (!s.toList.isEmpty) = true := by cases h : s.toList with | nil => exact absurd h hne1 | cons x y => rfl
  have hne3 : s.toList.isEmpty = false := by cases h : s.toList with | nil => exact absurd h hne1 | cons x y => rfl
  have T1 := Lib.hid t1
  have T2 := Lib.hid t2
  have T3 := Lib.hid t3'
  clear t1 t2 t3 t3' hse hk
  go_enter Try.func10, Try.ntmps10
  go_wp2_with fail
  refine (new_any s _).mono ?_
  rintro r w1 ⟨rfl, hr1, hb1, hz1⟩
  have hB1 : Below w.heap.size w w1 := ((Below.refl _ w).alloc (Nat.le_refl _) _).trans (hb1.mono (by simp))
  have hz : w1.heap.size = w.heap.size + 2 := by rw [hz1]; simp
  have hr1' : Rd w1 (w.heap.size + 1) s 0 := by simpa using hr1
  have hres : Blk w1 w.heap.size (rc R.zero) 27 := (hb1.block _ (by simp)).trans (heap_alloc_new w _)
  have HZ := Lib.hid hz
  clear hr1 hb1 hz1 hz
  go_wp2_with fail
  refine (inbyte_any (w.heap.size + 1) (w1.heap.size + 1) 0 #[.int .u8 0] 5 (.int .u8 0) s 0 _ hs (Rd.alloc (Rd.alloc hr1' _) _) (by have := heap_alloc_new (w1.alloc (.cells #[.pointer (some ⟨w.heap.size + 1, 0, none⟩)] 60)) (.cells #[.int .u8 0] 5); simpa [Blk] using this) rfl (by have := HZ.out; omega)).mono ?_
  rintro r w2 ⟨rfl, hr2, hb2, hk2⟩
  rw [T1.out, T2.out] at hr2
  rw [T3.out] at hb2
  have hz := HZ.out
  have hb2' : Blk w2 (w1.heap.size + 1) #[.int .u8 k] 5 := hb2
  have hi2 : Blk w2 w1.heap.size #[.pointer (some ⟨w.heap.size + 1, 0, none⟩)] 60 :=
    (hk2.block _ (by simp; omega) (by omega) (by omega)).trans (by have := heap_alloc2_old w1 (.cells #[.pointer (some ⟨w.heap.size + 1, 0, none⟩)] 60) (.cells #[.int .u8 0] 5); exact this)
  have hres2 : Blk w2 w.heap.size (rc R.zero) 27 := (hk2.block _ (by simp; omega) (by omega) (by omega)).trans ((hres.alloc _).alloc _)
  have hB2 : Below w.heap.size w w2 := Below.trodK ((hB1.alloc (by omega) _).alloc (by simp; omega) _) hk2 (by simp; omega) (by omega) (by omega)
  have hz2 : w1.heap.size + 2 ≤ w2.heap.size := by have := hk2.size; simp at this; exact this
  have ck : w2.cell? ⟨w1.heap.size + 1, 0, none⟩ = some (.int .u8 k) := hb2'.cell _ rfl
  have ci : w2.cell? ⟨w1.heap.size, 0, none⟩ = some (.pointer (some ⟨w.heap.size + 1, 0, none⟩)) := hi2.cell _ rfl
  clear hb2 hk2 hr1' hres hB1 hz
  have l1 : w1.heap.size < w2.heap.size := by omega
  have l0 : w.heap.size < w2.heap.size := by have := HZ.out; omega
  clear hz2
  go_wp2_with fail
  have hres3 := hres2.alloc (.cells (rc (R.of k)) 27)
  have hi3 := hi2.alloc (.cells (rc (R.of k)) 27)
  have hr3 := Rd.alloc hr2 (.cells (rc (R.of k)) 27)
  have hB3 := hB2.alloc (Nat.le_of_lt l0) (.cells (rc (R.of k)) 27)
  have hr0 := HZ.out
  refine (fin_full (w.heap.size + 1) w2.heap.size k m _ hb (by unfold maxLen at *; omega) hr3 (heap_alloc_new w2 _) (by omega) (by omega)).mono ?_
  rintro r w3 ⟨rfl, hr4, hq4, hk4⟩
  have hres4 : Blk w3 w.heap.size (rc R.zero) 27 := (hk4.block _ (by simp; omega) (by omega) (by omega)).trans hres3
  have hi4 : Blk w3 w1.heap.size #[.pointer (some ⟨w.heap.size + 1, 0, none⟩)] 60 := (hk4.block _ (by simp; omega) (by omega) (by omega)).trans hi3
  have hB4 : Below w.heap.size w w3 := Below.trodK hB3 hk4 (by simp; omega) (by omega) (by omega)
  have ci4 : w3.cell? ⟨w1.heap.size, 0, none⟩ = some (.pointer (some ⟨w.heap.size + 1, 0, none⟩)) := hi4.cell _ rfl
  have hz3 : w.heap.size ≤ w3.heap.size := hB4.size
  clear hres2 hi2 hr2 hB2 hres3 hi3 hr3 hB3 hk4 hr0 ck ci hb2' l1 l0
  go_wp2_with fail
  refine (err_any (w.heap.size + 1) _ _ _ hr4).mono ?_
  rintro r w' ⟨rfl, rfl⟩
  go_wp2_with fail
  refine (rest_any (w.heap.size + 1) _ _ _ hr4).mono ?_
  rintro r w' ⟨rfl, rfl⟩
  have hd : (m.drop (need k)).length ≠ 0 := by rw [List.length_drop]; omega
  have hD : ((bs (m.drop (need k))).toList == ([] : List UInt8)) = false := by
    rw [ByteArray.toList_eq, bs_toList]
    cases h : m.drop (need k) with
    | nil => rw [h] at hd; exact absurd rfl hd
    | cons x y => rfl
  generalize bs (m.drop (need k)) = D at *
  have hD1 : D.toList ≠ [] := by intro e; rw [e] at hD; cases hD
  have hD2 : (!D.toList.isEmpty) = true := by cases h : D.toList with | nil => exact absurd h hD1 | cons x y => rfl
  have hD3 : D.toList.isEmpty = false := by cases h : D.toList with | nil => exact absurd h hD1 | cons x y => rfl
  clear hd hn hr4 hi4 hq4
  go_wp2_with (refine store_rec (.tmp 2) (.tmp 40) w.heap.size R.zero R.zero hres4 rfl rfl rfl rfl rfl ?_)
  exact bodyPost_ret (v := .tuple #[.agg (rc R.zero), .int .i64 4]) (end_take _ rfl rfl (setRow_heap _ _ _ _ _ _ hres4)) rfl ⟨rfl, below_setRow hB4 (Nat.le_refl _) _⟩
/-- What 'Take' answers. -/
theorem take_any (l : List UInt8) (w : World) (hl : l.length ≤ maxLen) :
    Calls Try.prog 10 #[.string (bs l)] w fun r w' => r = .returned (.tuple #[.agg (rc (tR l).1), .int .i64 (tR l).2]) ∧ Below w.heap.size w w' := by
  cases l with
  | nil => exact take_nil w
  | cons b m =>
    have hm : m.length < maxLen := hl
    simp only [tR]
    by_cases hb : 1 ≤ b.toNat ∧ b.toNat ≤ 3
    · rw [if_pos hb]
      by_cases h1 : m.length < need b.toNat
      · rw [if_pos h1]; exact take_short b m w hm hb h1
      · rw [if_neg h1]
        by_cases h2 : m.length = need b.toNat
        · rw [if_pos h2]
          by_cases h3 : (rOf b.toNat m).right = true
          · rw [if_pos h3]; exact take_right b m w hm hb h2 h3
          · rw [if_neg h3]; exact take_wrong b m w hm hb h2 (by simpa using h3)
        · rw [if_neg h2]; exact take_long b m w hm hb (by omega)
    · rw [if_neg hb]; exact take_form b m w hm (by omega)
end Go.Proofs.Ytghgefiaijfbgaa.Rec
