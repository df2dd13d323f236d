/- Records: plain words; the small functions of the layer record: walked. -/
import Derived.Test.YtghgefiaijfbgaaCodecR
import Derived.WalkLawsBesides
namespace Go.Proofs.Ytghgefiaijfbgaa.Rec
open Go.RowKit Go.Proofs.Ytghgefiaijfbgaa.Crc Go.Proofs.Ytghgefiaijfbgaa.Codec
set_option linter.unusedVariables false
/-- A record. -/
structure R where
  kind : Int
  frame : Nat
  own : Nat
  p0 : Nat
  p1 : Nat
  seg : Nat
  first : Nat
  epoch : Nat
  player : Nat
def R.zero : R := ⟨0, 0, 0, 0, 0, 0, 0, 0, 0⟩
/-- Its cells. -/
def rc (r : R) : Array Value := #[.int .i64 r.kind, .int .u64 r.frame, .int .u8 r.own, .int .u8 r.p0, .int .u8 r.p1, .int .u64 r.seg, .int .u64 r.first, .int .u64 r.epoch, .int .u8 r.player]
/-- The numbers are what their types bear. -/
structure R.wf (r : R) : Prop where
  kind : -9223372036854775808 ≤ r.kind ∧ r.kind ≤ 9223372036854775807
  frame : r.frame < 18446744073709551616
  own : r.own < 256
  p0 : r.p0 < 256
  p1 : r.p1 < 256
  seg : r.seg < 18446744073709551616
  first : r.first < 18446744073709551616
  epoch : r.epoch < 18446744073709551616
  player : r.player < 256
/-- May its fields be, but for those that its kind does not name? -/
def R.right (r : R) : Bool := decide (r.own < 64) && (decide (r.p0 < 64) && (decide (r.p1 < 64) && decide (r.player ≤ 1)))
/-- Block q holds the record. -/
def RecB (W : World) (q : Nat) (r : R) : Prop := W.heap[q]? = some (.cells (rc r) 27 (0, 0))
set_option maxRecDepth 100000 in
/-- What 'Err' answers. -/
theorem err_any (p : Nat) (s : ByteArray) (e : Int) (w : World) (hr : Rd w p s e) :
    Calls Try.prog 24 #[.pointer (some ⟨p, 0, none⟩)] w fun r w' => r = .returned (.int .i64 e) ∧ w = w' := by
  obtain ⟨c0, c1, f0, f1⟩ := hr.cells
  go_enter Try.func24, Try.ntmps24
  go_wp2
  go_ret
  exact ⟨rfl, rfl⟩
set_option maxRecDepth 100000 in
theorem legal_any (n : Nat) (w : World) (hn : n < 256) :
    Calls Try.prog 30 #[.int .u8 n] w fun r w' => r = .returned (.bool (decide (n < 64))) ∧ w = w' := by
  go_enter Try.func30, Try.ntmps30
  go_wp2
  go_ret
  refine ⟨?_, rfl⟩
  show Ending.returned (.bool (decide ((n : Int) < 64))) = _
  rw [show decide ((n : Int) < 64) = decide (n < 64) from decide_eq_decide.2 (by omega)]
set_option maxRecDepth 100000 in
theorem right_any (r : R) (w : World) (hr : r.wf) :
    Calls Try.prog 18 #[.agg (rc r)] w fun e w' => e = .returned (.bool r.right) ∧ Below w.heap.size w w' := by
  obtain ⟨kind, frame, own, p0, p1, seg, first, epoch, player⟩ := r
  have h0 := hr.own
  have h1 := hr.p0
  have h2 := hr.p1
  have h3 := hr.player
  dsimp only at h0 h1 h2 h3
  have L0 := fun W => legal_any own W h0
  have L1 := fun W => legal_any p0 W h1
  have L2 := fun W => legal_any p1 W h2
  obtain ⟨b0, hb0⟩ : ∃ b0, b0 = decide (own < 64) := ⟨_, rfl⟩
  obtain ⟨b1, hb1⟩ : ∃ b1, b1 = decide (p0 < 64) := ⟨_, rfl⟩
  obtain ⟨b2, hb2⟩ : ∃ b2, b2 = decide (p1 < 64) := ⟨_, rfl⟩
  rw [← hb0] at L0
  rw [← hb1] at L1
  rw [← hb2] at L2
  dsimp only [rc, R.right]
  rw [← hb0, ← hb1, ← hb2]
  have K0 := Lib.hid L0
  have K1 := Lib.hid L1
  have K2 := Lib.hid L2
  clear L0 L1 L2 hb0 hb1 hb2 h0 h1 h2 hr
  cases b0 with
  | false =>
    go_enter Try.func18, Try.ntmps18
    go_wp2_with fail
    refine (K0.out _).mono ?_
    rintro e w1 ⟨rfl, rfl⟩
    go_wp2
    go_ret
    exact ⟨rfl, (Below.refl _ w).alloc (Nat.le_refl _) _⟩
  | true =>
    cases b1 with
    | false =>
      go_enter Try.func18, Try.ntmps18
      go_wp2_with fail
      refine (K0.out _).mono ?_
      rintro e w1 ⟨rfl, rfl⟩
      go_wp2_with fail
      refine (K1.out _).mono ?_
      rintro e w1 ⟨rfl, rfl⟩
      go_wp2
      go_ret
      exact ⟨rfl, (Below.refl _ w).alloc (Nat.le_refl _) _⟩
    | true =>
      cases b2 with
      | false =>
        go_enter Try.func18, Try.ntmps18
        go_wp2_with fail
        refine (K0.out _).mono ?_
        rintro e w1 ⟨rfl, rfl⟩
        go_wp2_with fail
        refine (K1.out _).mono ?_
        rintro e w1 ⟨rfl, rfl⟩
        go_wp2_with fail
        refine (K2.out _).mono ?_
        rintro e w1 ⟨rfl, rfl⟩
        go_wp2
        go_ret
        exact ⟨rfl, (Below.refl _ w).alloc (Nat.le_refl _) _⟩
      | true =>
        go_enter Try.func18, Try.ntmps18
        go_wp2_with fail
        refine (K0.out _).mono ?_
        rintro e w1 ⟨rfl, rfl⟩
        go_wp2_with fail
        refine (K1.out _).mono ?_
        rintro e w1 ⟨rfl, rfl⟩
        go_wp2_with fail
        refine (K2.out _).mono ?_
        rintro e w1 ⟨rfl, rfl⟩
        go_wp2
        go_ret
        refine ⟨?_, (Below.refl _ w).alloc (Nat.le_refl _) _⟩
        show Ending.returned (.bool (decide ((player : Int) ≤ 1))) = _
        rw [show decide ((player : Int) ≤ 1) = decide (player ≤ 1) from decide_eq_decide.2 (by omega)]
        rfl
end Go.Proofs.Ytghgefiaijfbgaa.Rec
