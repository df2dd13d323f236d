/- P1.5: sums and products ask for no order and keep the order of numbers; a number within two others stays: the pure part, and the walk. No conditions. -/
import Derived.Test.YtiflfafniciebaaPFixedCutsx1
import Derived.Test.YtiflfafniciebaaMath
namespace Go.Proofs.Ytiflfafniciebaa.Order
open Go.RowKit Go.Proofs.Ytiflfafniciebaa.PFixedCuts Go.Proofs.YtiflfafniciebaaW.PrintWords Go.Proofs.YtiflfafniciebaaW.PrintLast Go.Proofs.YtiflfafniciebaaW.PrintMore Go.Proofs.Ytiflfafniciebaa.FixMath
attribute [local go_sem] max2_int min2_int max_two min_two

theorem w64 {x : Int} (h0 : -9223372036854775808 ≤ x) (h1 : x ≤ 9223372036854775807) : wrap64 x = x := by unfold wrap64; omega
theorem w32 {x : Int} (h0 : -2147483648 ≤ x) (h1 : x ≤ 2147483647) : wrap32 x = x := by unfold wrap32; omega
theorem i32 {a : Int} (h : (Lit.int .i32 a).wf = true) : -2147483648 ≤ a ∧ a ≤ 2147483647 := by
  simp [Lit.wf, IntKind.min, IntKind.max, IntKind.signed, IntKind.bits] at h
  omega
theorem awakes (k : Nat) (hk : 30 ≤ k) : hindcastlaw01_awake.f k = some true := at_rounds hindcastlaw01_awake.mono hk (by decide +kernel)
/-- A whole number within the ends. -/
def cl (x : Int) : Int := mx (-2147483648) (mn x 2147483647)
theorem cl_cases (x : Int) : (x < -2147483648 ∧ cl x = -2147483648) ∨ (x > 2147483647 ∧ cl x = 2147483647) ∨ (-2147483648 ≤ x ∧ x ≤ 2147483647 ∧ cl x = x) := by
  unfold cl mx mn
  by_cases h1 : 2147483647 < x
  · rw [if_pos h1, if_pos (by omega)]; omega
  · rw [if_neg h1]
    by_cases h2 : -2147483648 < x
    · rw [if_pos h2]; omega
    · rw [if_neg h2]; omega
theorem bounded (x : Int) : fixed_bounded_int64.f x = some (cl x) := rfl

theorem below_eq {a b : Int} (hb : 0 < b) (h0 : -4611686018427387904 ≤ a) (h1 : a ≤ 4611686018427387904) : fixed_below.f a b = some (a / b) := by
  unfold fixed_below.f
  rw [if_neg (by omega)]
  have hd := fl_bd a hb (m := 4611686018427387904) (by decide) h0 h1
  by_cases ha : 0 ≤ a
  · rw [tm_pos ha, td_pos ha, if_neg (by have := Int.emod_nonneg a (Int.ne_of_gt hb); omega), w64 (by omega) (by omega)]
  · have hn := fl_bd (-a) hb (m := 4611686018427387904) (by decide) (by omega) (by omega)
    have hm := Int.emod_nonneg (-a) (Int.ne_of_gt hb)
    rw [tm_neg (by omega), td_neg (by omega)]
    by_cases h : 0 < (-a) % b
    · have := fl_neg1 hb h
      rw [Int.neg_neg] at this
      rw [if_pos (by omega), w64 (x := -(-a / b)) (by omega) (by omega), w64 (by omega) (by omega), this]
    · have := fl_neg0 (m := -a) hb (by omega)
      rw [Int.neg_neg] at this
      rw [if_neg (by omega), w64 (x := -(-a / b)) (by omega) (by omega), this]

def In32 (a : Int) : Prop := -2147483648 ≤ a ∧ a ≤ 2147483647
theorem cl_in (x : Int) : In32 (cl x) := by have := cl_cases x; unfold In32; omega
theorem cl_mono {x y : Int} (h : x ≤ y) : cl x ≤ cl y := by have := cl_cases x; have := cl_cases y; omega
def av (x y : Int) : Int := cl (x + y)
def mv (x y : Int) : Int := cl (x * y / 256)
def kv (n x y : Int) : Int := if n < x then x else if y < n then y else n
theorem kv_in {n x y : Int} (h : x ≤ y) : x ≤ kv n x y ∧ kv n x y ≤ y := by unfold kv; split <;> (try split) <;> omega
theorem kv_id {n x y : Int} (h1 : x ≤ n) (h2 : n ≤ y) : kv n x y = n := by unfold kv; rw [if_neg (by omega), if_neg (by omega)]
theorem av_comm (x y : Int) : av x y = av y x := by unfold av; rw [Int.add_comm]
theorem mv_comm (x y : Int) : mv x y = mv y x := by unfold mv; rw [Int.mul_comm]
theorem av_mono {x y z : Int} (h : x ≤ y) : av x z ≤ av y z := cl_mono (by omega)
theorem mv_mono {x y z : Int} (h : x ≤ y) (hz : 0 ≤ z) : mv x z ≤ mv y z := cl_mono (Int.ediv_le_ediv (by decide) (Int.mul_le_mul_of_nonneg_right h hz))
theorem add_any (x y : Int) (w : World) (hx : In32 x) (hy : In32 y) : Calls Try.prog 24 #[.int .i32 x, .int .i32 y] w fun e w' => e = .returned (.int .i32 (av x y)) ∧ Below w.heap.size w w' := by
  refine fixed_Add.calls x y (av x y) w ?_
  unfold In32 at hx hy
  unfold fixed_Add.f
  rw [w64 (x := x) (by omega) (by omega), w64 (x := y) (by omega) (by omega), w64 (x := x + y) (by omega) (by omega), bounded]
  rfl
theorem mul_any (x y : Int) (w : World) (hx : In32 x) (hy : In32 y) : Calls Try.prog 13 #[.int .i32 x, .int .i32 y] w fun e w' => e = .returned (.int .i32 (mv x y)) ∧ Below w.heap.size w w' := by
  refine fixed_Mul.calls x y (mv x y) w ?_
  unfold In32 at hx hy
  have hp := mul_bd (a := x) (b := y) (m := 2147483648) (n := 2147483648) (by decide) (by omega) (by omega) (by omega) (by omega)
  unfold fixed_Mul.f
  rw [w64 (x := x) (by omega) (by omega), w64 (x := y) (by omega) (by omega), w64 (x := x * y) (by omega) (by omega), below_eq (by decide) (by omega) (by omega)]
  rfl
theorem clamp_any (n x y : Int) (w : World) (h : x ≤ y) : Calls Try.prog 25 #[.int .i32 n, .int .i32 x, .int .i32 y] w fun e w' => e = .returned (.int .i32 (kv n x y)) ∧ Below w.heap.size w w' := by
  refine fixed_Clamp.calls n x y (kv n x y) w ?_
  unfold fixed_Clamp.f kv mx mn
  repeat' split
  all_goals (first | rfl | (congr 1; omega))
theorem awake_any (w : World) : Calls Try.prog 15 #[] w fun e w' => e = .returned (.bool true) ∧ Below w.heap.size w w' :=
  hindcastlaw01_awake.calls 30 true w (awakes 30 (Nat.le_refl _))
set_option maxRecDepth 100000 in
theorem order (a b c : Int) (w : World) (ha : In32 a) (hb : In32 b) (hc : In32 c) : Calls Try.prog 9 #[.int .i32 a, .int .i32 b, .int .i32 c] w fun e w' => e = .returned (.bool true) ∧ Below w.heap.size w w' := by
  obtain ⟨X, hX⟩ : ∃ X, (if b < a then b else a) = X := ⟨_, rfl⟩
  obtain ⟨Y, hY⟩ : ∃ Y, (if a < b then b else a) = Y := ⟨_, rfl⟩
  have hXY : X ≤ Y ∧ In32 X ∧ In32 Y := by unfold In32 at *; rw [← hX, ← hY]; (repeat' split) <;> omega
  obtain ⟨hle, hX32, hY32⟩ := hXY
  clear ha hb
  have hk := kv_in (n := c) hle
  have f1 : (av X c != av c X) = false := by rw [av_comm]; simp
  have f2 : (mv X c != mv c X) = false := by rw [mv_comm]; simp
  have f3 : decide (av Y c < av X c) = false := decide_eq_false (by have := av_mono (z := c) hle; omega)
  have f5 : decide (X ≤ kv c X Y) = true := decide_eq_true hk.1
  have f6 : decide (kv c X Y ≤ Y) = true := decide_eq_true hk.2
  have f7 : (kv (kv c X Y) X Y == kv c X Y) = true := by rw [kv_id hk.1 hk.2]; simp
  have f8 : (decide (c < X) = true) ∨ (decide (c < X) = false ∧ decide (Y < c) = true) ∨ (decide (c < X) = false ∧ decide (Y < c) = false ∧ (kv c X Y == c) = true) := by
    by_cases h1 : c < X
    · exact .inl (decide_eq_true h1)
    · by_cases h2 : Y < c
      · exact .inr (.inl ⟨decide_eq_false h1, decide_eq_true h2⟩)
      · exact .inr (.inr ⟨decide_eq_false h1, decide_eq_false h2, by rw [kv_id (by omega) (by omega)]; simp⟩)
  have f4 : (decide (0 ≤ c) = true ∧ decide (mv Y c < mv X c) = false) ∨ decide (0 ≤ c) = false := by
    by_cases h : 0 ≤ c
    · exact .inl ⟨decide_eq_true h, decide_eq_false (by have := mv_mono hle h; omega)⟩
    · exact .inr (decide_eq_false h)
  clear hk
  have HB := Aside0.mk (Below.refl w.heap.size w)
  rcases f4 with ⟨f4, f4'⟩ | f4 <;> rcases f8 with f8 | ⟨f8, f9⟩ | ⟨f8, f9, f10⟩
  all_goals
    go_enter Try.func9, Try.ntmps9
    go_wp2_with (first | (go_at_call 24; (with_reducible refine (add_any _ _ _ ‹_› ‹_›).mono ?_); rintro e w1 ⟨rfl, hb⟩; have n0_ := Aside0.mk (below_step HB.out hb); clear HB; have HB := n0_; clear n0_; clear hb) | (go_at_call 13; (with_reducible refine (mul_any _ _ _ ‹_› ‹_›).mono ?_); rintro e w1 ⟨rfl, hb⟩; have n0_ := Aside0.mk (below_step HB.out hb); clear HB; have HB := n0_; clear n0_; clear hb) | (go_at_call 25; (with_reducible refine (clamp_any _ _ _ _ hle).mono ?_); rintro e w1 ⟨rfl, hb⟩; have n0_ := Aside0.mk (below_step HB.out hb); clear HB; have HB := n0_; clear n0_; clear hb) | (go_at_call 15; (with_reducible refine (awake_any _).mono ?_); rintro e w1 ⟨rfl, hb⟩; have n0_ := Aside0.mk (below_step HB.out hb); clear HB; have HB := n0_; clear n0_; clear hb))
    go_ret
    exact ⟨rfl, HB.out⟩
end Go.Proofs.Ytiflfafniciebaa.Order
