-- PRINTED BY print.sh 35421559b90ae4d0a3588c463048766b98c2df88dd9212a6774a882060cdf62d: not written by this session
import Derived.Test.YtiflfafniciebaaPFixedKnownx0
import Derived.Test.YtiflfafniciebaaPFixedKnownx1
namespace Go.Proofs.Ytiflfafniciebaa.PFixedKnown
open Go.RowKit Go.Proofs.YtiflfafniciebaaW.PrintWords Go.Proofs.YtiflfafniciebaaW.PrintLast Go.Proofs.YtiflfafniciebaaW.PrintMore
attribute [local go_sem] max2_int min2_int max_two min_two max_three min_three max_four min_four   -- for this text's walks alone
set_option linter.unusedVariables false
set_option linter.unusedSimpArgs false

/-! ### hindcastlaw01_FixedKnown: function 12 -/
mutual
def hindcastlaw01_FixedKnown.j0 : Nat → Bool → Option (Bool)
  | 0, _ => none
  | k + 1, x30 => if x30 = true then (some false) else ((fixed_Sub.f (-2147483648) 1).bind fun t127 => (if t127 = (-2147483648) then ((fixed_Neg.f (-2147483648)).bind fun t128 => (if t128 = 2147483647 then ((fixed_Abs.f (-5)).bind fun t129 => (if t129 = 5 then ((fixed_Abs.f (-2147483648)).bind fun t130 => (if t130 = 2147483647 then ((fixed_Mul.f (-1) 1).bind fun t131 => (if t131 = (-1) then ((fixed_Mul.f 2147483647 512).bind fun t132 => (if t132 = 2147483647 then ((fixed_Mul.f (-2147483648) (-2147483648)).bind fun t133 => (hindcastlaw01_FixedKnown.j1 k (t133 != 2147483647))) else (hindcastlaw01_FixedKnown.j1 k true))) else (hindcastlaw01_FixedKnown.j1 k true))) else (hindcastlaw01_FixedKnown.j1 k true))) else (hindcastlaw01_FixedKnown.j1 k true))) else (hindcastlaw01_FixedKnown.j1 k true))) else (hindcastlaw01_FixedKnown.j1 k true)))
def hindcastlaw01_FixedKnown.j1 : Nat → Bool → Option (Bool)
  | 0, _ => none
  | k + 1, x56 => if x56 = true then (some false) else ((fixed_Div.f (-1) 512).bind fun t134 => (if t134 = (-1) then ((fixed_Div.f 1 0).bind fun t135 => (if t135 = 2147483647 then ((fixed_Div.f (-1) 0).bind fun t136 => (if t136 = (-2147483648) then ((fixed_Div.f 0 0).bind fun t137 => (if t137 = 0 then ((fixed_Div.f (-2147483648) (-1)).bind fun t138 => (if t138 = 2147483647 then ((fixed_Div.f 1 (-512)).bind fun t139 => (if t139 = (-1) then ((fixed_Div.f (-1) (-512)).bind fun t140 => (hindcastlaw01_FixedKnown.j2 k (t140 != 0))) else (hindcastlaw01_FixedKnown.j2 k true))) else (hindcastlaw01_FixedKnown.j2 k true))) else (hindcastlaw01_FixedKnown.j2 k true))) else (hindcastlaw01_FixedKnown.j2 k true))) else (hindcastlaw01_FixedKnown.j2 k true))) else (hindcastlaw01_FixedKnown.j2 k true)))
def hindcastlaw01_FixedKnown.j2 : Nat → Bool → Option (Bool)
  | 0, _ => none
  | k + 1, x82 => if x82 = true then (some false) else ((fixed_Clamp.f 5 1 3).bind fun t141 => (if t141 = 3 then ((fixed_Clamp.f 0 1 3).bind fun t142 => (if t142 = 1 then ((fixed_Clamp.f 2 9 3).bind fun t143 => (if t143 = 9 then ((fixed_Trunc.f (-7) 2).bind fun t144 => (if t144 = (-3) then ((fixed_Trunc.f 7 0).bind fun t145 => (if t145 = 0 then ((fixed_Trunc.f (-2147483648) (-1)).bind fun t146 => (if t146 = 2147483647 then ((fixed_Root.f k 1).bind fun t147 => (if t147 = 16 then ((fixed_Root.f k (-1)).bind fun t148 => (if t148 = 0 then ((fixed_Root.f k 0).bind fun t149 => (if t149 = 0 then ((fixed_Root.f k 2147483647).bind fun t150 => (if t150 = 741455 then ((hindcastlaw01_awake.f k).bind fun t151 => (some t151)) else (some false))) else (some false))) else (some false))) else (some false))) else (some false))) else (some false))) else (some false))) else (some false))) else (some false))) else (some false)))
end
def hindcastlaw01_FixedKnown.f (k : Nat)  : Option (Bool) := (fixed_Of.f (-9000000)).bind fun t119 => (if t119 = (-2147483648) then ((fixed_Whole.f (-1)).bind fun t120 => (if t120 = (-1) then ((fixed_Whole.f 511).bind fun t121 => (if t121 = 1 then ((fixed_Of.f 8388607).bind fun t122 => (if t122 = 2147483392 then ((fixed_Of.f 8388608).bind fun t123 => (if t123 = 2147483647 then ((fixed_Of.f (-8388608)).bind fun t124 => (if t124 = (-2147483648) then ((fixed_Of.f 4611686018427387904).bind fun t125 => (if t125 = 2147483647 then ((fixed_Of.f (-9223372036854775808)).bind fun t126 => (hindcastlaw01_FixedKnown.j0 k (t126 != (-2147483648)))) else (hindcastlaw01_FixedKnown.j0 k true))) else (hindcastlaw01_FixedKnown.j0 k true))) else (hindcastlaw01_FixedKnown.j0 k true))) else (hindcastlaw01_FixedKnown.j0 k true))) else (hindcastlaw01_FixedKnown.j0 k true))) else (hindcastlaw01_FixedKnown.j0 k true))) else (hindcastlaw01_FixedKnown.j0 k true))
theorem hindcastlaw01_FixedKnown.mono_l : ∀ k, (∀ y0, LeO (hindcastlaw01_FixedKnown.j0 k y0) (hindcastlaw01_FixedKnown.j0 (k + 1) y0)) ∧ (∀ y0, LeO (hindcastlaw01_FixedKnown.j1 k y0) (hindcastlaw01_FixedKnown.j1 (k + 1) y0)) ∧ (∀ y0, LeO (hindcastlaw01_FixedKnown.j2 k y0) (hindcastlaw01_FixedKnown.j2 (k + 1) y0))
  | 0 => ⟨fun _ r h => by simp [hindcastlaw01_FixedKnown.j0] at h, fun _ r h => by simp [hindcastlaw01_FixedKnown.j1] at h, fun _ r h => by simp [hindcastlaw01_FixedKnown.j2] at h⟩
  | k + 1 => by
    obtain ⟨ih0, ih1, ih2⟩ := hindcastlaw01_FixedKnown.mono_l k
    refine ⟨?_, ?_, ?_⟩
    · intro y0
      unfold hindcastlaw01_FixedKnown.j0
      repeat' first
      | (with_reducible exact ih0 _)
      | (with_reducible exact ih1 _)
      | (with_reducible exact ih2 _)
      | (with_reducible exact fixed_Root.mono _ _)
      | (with_reducible exact hindcastlaw01_awake.mono _)
      | (with_reducible exact LeO.refl _)
      | (with_reducible exact LeO.none _)
      | (with_reducible refine LeO.ite ?_ ?_)
      | (with_reducible refine LeO.bind ?_ (fun _ => ?_))
      | exact ih0 _
      | exact ih1 _
      | exact ih2 _
      | exact fixed_Root.mono _ _
      | exact hindcastlaw01_awake.mono _
      | exact LeO.none _
      | refine LeO.ite ?_ ?_
      | refine LeO.bind ?_ (fun _ => ?_)
    · intro y0
      unfold hindcastlaw01_FixedKnown.j1
      repeat' first
      | (with_reducible exact ih0 _)
      | (with_reducible exact ih1 _)
      | (with_reducible exact ih2 _)
      | (with_reducible exact fixed_Root.mono _ _)
      | (with_reducible exact hindcastlaw01_awake.mono _)
      | (with_reducible exact LeO.refl _)
      | (with_reducible exact LeO.none _)
      | (with_reducible refine LeO.ite ?_ ?_)
      | (with_reducible refine LeO.bind ?_ (fun _ => ?_))
      | exact ih0 _
      | exact ih1 _
      | exact ih2 _
      | exact fixed_Root.mono _ _
      | exact hindcastlaw01_awake.mono _
      | exact LeO.none _
      | refine LeO.ite ?_ ?_
      | refine LeO.bind ?_ (fun _ => ?_)
    · intro y0
      unfold hindcastlaw01_FixedKnown.j2
      repeat' first
      | (with_reducible exact ih0 _)
      | (with_reducible exact ih1 _)
      | (with_reducible exact ih2 _)
      | (with_reducible exact fixed_Root.mono _ _)
      | (with_reducible exact hindcastlaw01_awake.mono _)
      | (with_reducible exact LeO.refl _)
      | (with_reducible exact LeO.none _)
      | (with_reducible refine LeO.ite ?_ ?_)
      | (with_reducible refine LeO.bind ?_ (fun _ => ?_))
      | exact ih0 _
      | exact ih1 _
      | exact ih2 _
      | exact fixed_Root.mono _ _
      | exact hindcastlaw01_awake.mono _
      | exact LeO.none _
      | refine LeO.ite ?_ ?_
      | refine LeO.bind ?_ (fun _ => ?_)
theorem hindcastlaw01_FixedKnown.mono : ∀ k, LeO (hindcastlaw01_FixedKnown.f k ) (hindcastlaw01_FixedKnown.f (k + 1) ) := by
  intro  k
  obtain ⟨ih0, ih1, ih2⟩ := hindcastlaw01_FixedKnown.mono_l k
  unfold hindcastlaw01_FixedKnown.f
  repeat' first
      | (with_reducible exact ih0 _)
      | (with_reducible exact ih1 _)
      | (with_reducible exact ih2 _)
      | (with_reducible exact fixed_Root.mono _ _)
      | (with_reducible exact hindcastlaw01_awake.mono _)
      | (with_reducible exact LeO.refl _)
      | (with_reducible exact LeO.none _)
      | (with_reducible refine LeO.ite ?_ ?_)
      | (with_reducible refine LeO.bind ?_ (fun _ => ?_))
      | exact ih0 _
      | exact ih1 _
      | exact ih2 _
      | exact fixed_Root.mono _ _
      | exact hindcastlaw01_awake.mono _
      | exact LeO.none _
      | refine LeO.ite ?_ ?_
      | refine LeO.bind ?_ (fun _ => ?_)
set_option maxHeartbeats 8000000 in
set_option maxRecDepth 100000 in
theorem hindcastlaw01_FixedKnown.calls (k : Nat)  (r : Bool) (w : World) (h : hindcastlaw01_FixedKnown.f k  = some r) :
    Calls Try.prog 12 #[] w fun e w' => e = .returned (.bool r) ∧ Below w.heap.size w w' := by
  have HB := Aside0.mk (Below.refl w.heap.size w)
  have H : ((fixed_Of.f (-9000000)).bind fun t119 => (if t119 = (-2147483648) then ((fixed_Whole.f (-1)).bind fun t120 => (if t120 = (-1) then ((fixed_Whole.f 511).bind fun t121 => (if t121 = 1 then ((fixed_Of.f 8388607).bind fun t122 => (if t122 = 2147483392 then ((fixed_Of.f 8388608).bind fun t123 => (if t123 = 2147483647 then ((fixed_Of.f (-8388608)).bind fun t124 => (if t124 = (-2147483648) then ((fixed_Of.f 4611686018427387904).bind fun t125 => (if t125 = 2147483647 then ((fixed_Of.f (-9223372036854775808)).bind fun t126 => (hindcastlaw01_FixedKnown.j0 k (t126 != (-2147483648)))) else (hindcastlaw01_FixedKnown.j0 k true))) else (hindcastlaw01_FixedKnown.j0 k true))) else (hindcastlaw01_FixedKnown.j0 k true))) else (hindcastlaw01_FixedKnown.j0 k true))) else (hindcastlaw01_FixedKnown.j0 k true))) else (hindcastlaw01_FixedKnown.j0 k true))) else (hindcastlaw01_FixedKnown.j0 k true))) = some r := h
  clear h
  have HC1 := Aside0.mk H
  clear H
  go_enter Try.func12, Try.ntmps12
  go_upto_region 1 with (fail)
  go_cut [30] (fun v30 wc => ∃ (kq : Nat) (x30_0 : Bool), v30 = .bool x30_0 ∧ Aside0 (hindcastlaw01_FixedKnown.j0 kq x30_0 = some r) ∧ Aside0 (kq ≤ k) ∧ Aside0 (Below w.heap.size w wc))
  case first =>
    have H := HC1.out
    clear HC1
    replace H := Option.bind_eq_some_iff.mp H
    obtain ⟨t119, A20, H⟩ := H
    replace H : (if t119 = (-2147483648) then ((fixed_Whole.f (-1)).bind fun t120 => (if t120 = (-1) then ((fixed_Whole.f 511).bind fun t121 => (if t121 = 1 then ((fixed_Of.f 8388607).bind fun t122 => (if t122 = 2147483392 then ((fixed_Of.f 8388608).bind fun t123 => (if t123 = 2147483647 then ((fixed_Of.f (-8388608)).bind fun t124 => (if t124 = (-2147483648) then ((fixed_Of.f 4611686018427387904).bind fun t125 => (if t125 = 2147483647 then ((fixed_Of.f (-9223372036854775808)).bind fun t126 => (hindcastlaw01_FixedKnown.j0 k (t126 != (-2147483648)))) else (hindcastlaw01_FixedKnown.j0 k true))) else (hindcastlaw01_FixedKnown.j0 k true))) else (hindcastlaw01_FixedKnown.j0 k true))) else (hindcastlaw01_FixedKnown.j0 k true))) else (hindcastlaw01_FixedKnown.j0 k true))) else (hindcastlaw01_FixedKnown.j0 k true))) else (hindcastlaw01_FixedKnown.j0 k true)) = some r := H
    have A2 := Aside0.mk A20
    clear A20
    by_cases c3 : t119 = (-2147483648)
    · rw [if_pos c3] at H
      have c3b0 : (t119 == (-2147483648)) = true := beq_iff_eq.mpr c3
      have c3b1 : (t119 != (-2147483648)) = false := bne_eq_false_iff_eq.mpr c3
      clear c3
      (first | rw [c3b0] | (simp only [i64_w, i32_w]; rw [c3b0]) | skip)
      replace H := Option.bind_eq_some_iff.mp H
      obtain ⟨t120, A40, H⟩ := H
      replace H : (if t120 = (-1) then ((fixed_Whole.f 511).bind fun t121 => (if t121 = 1 then ((fixed_Of.f 8388607).bind fun t122 => (if t122 = 2147483392 then ((fixed_Of.f 8388608).bind fun t123 => (if t123 = 2147483647 then ((fixed_Of.f (-8388608)).bind fun t124 => (if t124 = (-2147483648) then ((fixed_Of.f 4611686018427387904).bind fun t125 => (if t125 = 2147483647 then ((fixed_Of.f (-9223372036854775808)).bind fun t126 => (hindcastlaw01_FixedKnown.j0 k (t126 != (-2147483648)))) else (hindcastlaw01_FixedKnown.j0 k true))) else (hindcastlaw01_FixedKnown.j0 k true))) else (hindcastlaw01_FixedKnown.j0 k true))) else (hindcastlaw01_FixedKnown.j0 k true))) else (hindcastlaw01_FixedKnown.j0 k true))) else (hindcastlaw01_FixedKnown.j0 k true)) = some r := H
      have A4 := Aside0.mk A40
      clear A40
      by_cases c5 : t120 = (-1)
      · rw [if_pos c5] at H
        have c5b0 : (t120 == (-1)) = true := beq_iff_eq.mpr c5
        have c5b1 : (t120 != (-1)) = false := bne_eq_false_iff_eq.mpr c5
        clear c5
        replace H := Option.bind_eq_some_iff.mp H
        obtain ⟨t121, A60, H⟩ := H
        replace H : (if t121 = 1 then ((fixed_Of.f 8388607).bind fun t122 => (if t122 = 2147483392 then ((fixed_Of.f 8388608).bind fun t123 => (if t123 = 2147483647 then ((fixed_Of.f (-8388608)).bind fun t124 => (if t124 = (-2147483648) then ((fixed_Of.f 4611686018427387904).bind fun t125 => (if t125 = 2147483647 then ((fixed_Of.f (-9223372036854775808)).bind fun t126 => (hindcastlaw01_FixedKnown.j0 k (t126 != (-2147483648)))) else (hindcastlaw01_FixedKnown.j0 k true))) else (hindcastlaw01_FixedKnown.j0 k true))) else (hindcastlaw01_FixedKnown.j0 k true))) else (hindcastlaw01_FixedKnown.j0 k true))) else (hindcastlaw01_FixedKnown.j0 k true)) = some r := H
        have A6 := Aside0.mk A60
        clear A60
        by_cases c7 : t121 = 1
        · rw [if_pos c7] at H
          have c7b0 : (t121 == 1) = true := beq_iff_eq.mpr c7
          have c7b1 : (t121 != 1) = false := bne_eq_false_iff_eq.mpr c7
          clear c7
          replace H := Option.bind_eq_some_iff.mp H
          obtain ⟨t122, A80, H⟩ := H
          replace H : (if t122 = 2147483392 then ((fixed_Of.f 8388608).bind fun t123 => (if t123 = 2147483647 then ((fixed_Of.f (-8388608)).bind fun t124 => (if t124 = (-2147483648) then ((fixed_Of.f 4611686018427387904).bind fun t125 => (if t125 = 2147483647 then ((fixed_Of.f (-9223372036854775808)).bind fun t126 => (hindcastlaw01_FixedKnown.j0 k (t126 != (-2147483648)))) else (hindcastlaw01_FixedKnown.j0 k true))) else (hindcastlaw01_FixedKnown.j0 k true))) else (hindcastlaw01_FixedKnown.j0 k true))) else (hindcastlaw01_FixedKnown.j0 k true)) = some r := H
          have A8 := Aside0.mk A80
          clear A80
          by_cases c9 : t122 = 2147483392
          · rw [if_pos c9] at H
            have c9b0 : (t122 == 2147483392) = true := beq_iff_eq.mpr c9
            have c9b1 : (t122 != 2147483392) = false := bne_eq_false_iff_eq.mpr c9
            clear c9
            replace H := Option.bind_eq_some_iff.mp H
            obtain ⟨t123, A100, H⟩ := H
            replace H : (if t123 = 2147483647 then ((fixed_Of.f (-8388608)).bind fun t124 => (if t124 = (-2147483648) then ((fixed_Of.f 4611686018427387904).bind fun t125 => (if t125 = 2147483647 then ((fixed_Of.f (-9223372036854775808)).bind fun t126 => (hindcastlaw01_FixedKnown.j0 k (t126 != (-2147483648)))) else (hindcastlaw01_FixedKnown.j0 k true))) else (hindcastlaw01_FixedKnown.j0 k true))) else (hindcastlaw01_FixedKnown.j0 k true)) = some r := H
            have A10 := Aside0.mk A100
            clear A100
            by_cases c11 : t123 = 2147483647
            · rw [if_pos c11] at H
              have c11b0 : (t123 == 2147483647) = true := beq_iff_eq.mpr c11
              have c11b1 : (t123 != 2147483647) = false := bne_eq_false_iff_eq.mpr c11
              clear c11
              replace H := Option.bind_eq_some_iff.mp H
              obtain ⟨t124, A120, H⟩ := H
              replace H : (if t124 = (-2147483648) then ((fixed_Of.f 4611686018427387904).bind fun t125 => (if t125 = 2147483647 then ((fixed_Of.f (-9223372036854775808)).bind fun t126 => (hindcastlaw01_FixedKnown.j0 k (t126 != (-2147483648)))) else (hindcastlaw01_FixedKnown.j0 k true))) else (hindcastlaw01_FixedKnown.j0 k true)) = some r := H
              have A12 := Aside0.mk A120
              clear A120
              by_cases c13 : t124 = (-2147483648)
              · rw [if_pos c13] at H
                have c13b0 : (t124 == (-2147483648)) = true := beq_iff_eq.mpr c13
                have c13b1 : (t124 != (-2147483648)) = false := bne_eq_false_iff_eq.mpr c13
                clear c13
                replace H := Option.bind_eq_some_iff.mp H
                obtain ⟨t125, A140, H⟩ := H
                replace H : (if t125 = 2147483647 then ((fixed_Of.f (-9223372036854775808)).bind fun t126 => (hindcastlaw01_FixedKnown.j0 k (t126 != (-2147483648)))) else (hindcastlaw01_FixedKnown.j0 k true)) = some r := H
                have A14 := Aside0.mk A140
                clear A140
                by_cases c15 : t125 = 2147483647
                · rw [if_pos c15] at H
                  have c15b0 : (t125 == 2147483647) = true := beq_iff_eq.mpr c15
                  have c15b1 : (t125 != 2147483647) = false := bne_eq_false_iff_eq.mpr c15
                  clear c15
                  replace H := Option.bind_eq_some_iff.mp H
                  obtain ⟨t126, A160, H⟩ := H
                  replace H : (hindcastlaw01_FixedKnown.j0 k (t126 != (-2147483648))) = some r := H
                  have A16 := Aside0.mk A160
                  clear A160
                  have H' := Aside0.mk H
                  clear H
                  go_wp2_with (first | ((with_reducible refine gate_callee (f := 20) rfl ?_); refine goesL_ (some 1) rfl rfl Try.func20 (by kernel_rfl) rfl #[.int .i64 (-9000000)] rfl (by (try simp only [List.map_toArray, List.map_cons, List.map_nil]); first | done | rfl | (simp only [List.length_drop, List.length_take]; rfl)) ?_; (with_reducible refine (fixed_Of.calls (-9000000) t119 _ A2.out).mono ?_); rintro e w17 ⟨rfl, hb⟩; refine ⟨_, rfl, ?_⟩; have n0_ := Aside0.mk (below_step (by repeat (first | (with_reducible first | exact HB.out | apply below_alloc | apply pw_below_drewN | apply below_drew1) | exact HB.out)) hb); clear HB; have HB := n0_; clear n0_; (try clear hb); (try clear hb2); (try clear hk); (try clear hi)) | (go_at_call 22; (with_reducible refine (fixed_Whole.calls (-1) t120 _ A4.out).mono ?_); rintro e w' ⟨rfl, ⟨nd, rfl⟩⟩) | (go_at_call 22; (with_reducible refine (fixed_Whole.calls 511 t121 _ A6.out).mono ?_); rintro e w' ⟨rfl, ⟨nd, rfl⟩⟩) | (go_at_call 20; (with_reducible refine (fixed_Of.calls 8388607 t122 _ A8.out).mono ?_); rintro e w18 ⟨rfl, hb⟩; have n0_ := Aside0.mk (below_step (by repeat (first | (with_reducible first | exact HB.out | apply below_alloc | apply pw_below_drewN | apply below_drew1) | exact HB.out)) hb); clear HB; have HB := n0_; clear n0_; (try clear hb); (try clear hb2); (try clear hk); (try clear hi)) | (go_at_call 20; (with_reducible refine (fixed_Of.calls 8388608 t123 _ A10.out).mono ?_); rintro e w19 ⟨rfl, hb⟩; have n0_ := Aside0.mk (below_step (by repeat (first | (with_reducible first | exact HB.out | apply below_alloc | apply pw_below_drewN | apply below_drew1) | exact HB.out)) hb); clear HB; have HB := n0_; clear n0_; (try clear hb); (try clear hb2); (try clear hk); (try clear hi)) | (go_at_call 20; (with_reducible refine (fixed_Of.calls (-8388608) t124 _ A12.out).mono ?_); rintro e w20 ⟨rfl, hb⟩; have n0_ := Aside0.mk (below_step (by repeat (first | (with_reducible first | exact HB.out | apply below_alloc | apply pw_below_drewN | apply below_drew1) | exact HB.out)) hb); clear HB; have HB := n0_; clear n0_; (try clear hb); (try clear hb2); (try clear hk); (try clear hi)) | (go_at_call 20; (with_reducible refine (fixed_Of.calls 4611686018427387904 t125 _ A14.out).mono ?_); rintro e w21 ⟨rfl, hb⟩; have n0_ := Aside0.mk (below_step (by repeat (first | (with_reducible first | exact HB.out | apply below_alloc | apply pw_below_drewN | apply below_drew1) | exact HB.out)) hb); clear HB; have HB := n0_; clear n0_; (try clear hb); (try clear hb2); (try clear hk); (try clear hi)) | (go_at_call 20; (with_reducible refine (fixed_Of.calls (-9223372036854775808) t126 _ A16.out).mono ?_); rintro e w22 ⟨rfl, hb⟩; have n0_ := Aside0.mk (below_step (by repeat (first | (with_reducible first | exact HB.out | apply below_alloc | apply pw_below_drewN | apply below_drew1) | exact HB.out)) hb); clear HB; have HB := n0_; clear n0_; (try clear hb); (try clear hb2); (try clear hk); (try clear hi)))
                  go_meet
                  case rel => exact ⟨_, ((t126 != (-2147483648))), (by first | rfl | (simp; done) | (simp [*]; done)), H', ⟨by first | omega | exact Nat.le_refl _⟩, ⟨by repeat (first | (with_reducible first | exact HB.out | apply below_alloc | apply pw_below_drewN | apply below_drew1) | exact HB.out)⟩⟩
                · rw [if_neg c15] at H
                  have c15b0 : (t125 == 2147483647) = false := beq_eq_false_iff_ne.mpr c15
                  have c15b1 : (t125 != 2147483647) = true := bne_iff_ne.mpr c15
                  have H' := Aside0.mk H
                  clear H
                  go_wp2_with (first | ((with_reducible refine gate_callee (f := 20) rfl ?_); refine goesL_ (some 1) rfl rfl Try.func20 (by kernel_rfl) rfl #[.int .i64 (-9000000)] rfl (by (try simp only [List.map_toArray, List.map_cons, List.map_nil]); first | done | rfl | (simp only [List.length_drop, List.length_take]; rfl)) ?_; (with_reducible refine (fixed_Of.calls (-9000000) t119 _ A2.out).mono ?_); rintro e w23 ⟨rfl, hb⟩; refine ⟨_, rfl, ?_⟩; have n0_ := Aside0.mk (below_step (by repeat (first | (with_reducible first | exact HB.out | apply below_alloc | apply pw_below_drewN | apply below_drew1) | exact HB.out)) hb); clear HB; have HB := n0_; clear n0_; (try clear hb); (try clear hb2); (try clear hk); (try clear hi)) | (go_at_call 22; (with_reducible refine (fixed_Whole.calls (-1) t120 _ A4.out).mono ?_); rintro e w' ⟨rfl, ⟨nd, rfl⟩⟩) | (go_at_call 22; (with_reducible refine (fixed_Whole.calls 511 t121 _ A6.out).mono ?_); rintro e w' ⟨rfl, ⟨nd, rfl⟩⟩) | (go_at_call 20; (with_reducible refine (fixed_Of.calls 8388607 t122 _ A8.out).mono ?_); rintro e w24 ⟨rfl, hb⟩; have n0_ := Aside0.mk (below_step (by repeat (first | (with_reducible first | exact HB.out | apply below_alloc | apply pw_below_drewN | apply below_drew1) | exact HB.out)) hb); clear HB; have HB := n0_; clear n0_; (try clear hb); (try clear hb2); (try clear hk); (try clear hi)) | (go_at_call 20; (with_reducible refine (fixed_Of.calls 8388608 t123 _ A10.out).mono ?_); rintro e w25 ⟨rfl, hb⟩; have n0_ := Aside0.mk (below_step (by repeat (first | (with_reducible first | exact HB.out | apply below_alloc | apply pw_below_drewN | apply below_drew1) | exact HB.out)) hb); clear HB; have HB := n0_; clear n0_; (try clear hb); (try clear hb2); (try clear hk); (try clear hi)) | (go_at_call 20; (with_reducible refine (fixed_Of.calls (-8388608) t124 _ A12.out).mono ?_); rintro e w26 ⟨rfl, hb⟩; have n0_ := Aside0.mk (below_step (by repeat (first | (with_reducible first | exact HB.out | apply below_alloc | apply pw_below_drewN | apply below_drew1) | exact HB.out)) hb); clear HB; have HB := n0_; clear n0_; (try clear hb); (try clear hb2); (try clear hk); (try clear hi)) | (go_at_call 20; (with_reducible refine (fixed_Of.calls 4611686018427387904 t125 _ A14.out).mono ?_); rintro e w27 ⟨rfl, hb⟩; have n0_ := Aside0.mk (below_step (by repeat (first | (with_reducible first | exact HB.out | apply below_alloc | apply pw_below_drewN | apply below_drew1) | exact HB.out)) hb); clear HB; have HB := n0_; clear n0_; (try clear hb); (try clear hb2); (try clear hk); (try clear hi)))
                  go_meet
                  case rel => exact ⟨_, (true), (by first | rfl | (simp; done) | (simp [*]; done)), H', ⟨by first | omega | exact Nat.le_refl _⟩, ⟨by repeat (first | (with_reducible first | exact HB.out | apply below_alloc | apply pw_below_drewN | apply below_drew1) | exact HB.out)⟩⟩
              · rw [if_neg c13] at H
                have c13b0 : (t124 == (-2147483648)) = false := beq_eq_false_iff_ne.mpr c13
                have c13b1 : (t124 != (-2147483648)) = true := bne_iff_ne.mpr c13
                have H' := Aside0.mk H
                clear H
                go_wp2_with (first | ((with_reducible refine gate_callee (f := 20) rfl ?_); refine goesL_ (some 1) rfl rfl Try.func20 (by kernel_rfl) rfl #[.int .i64 (-9000000)] rfl (by (try simp only [List.map_toArray, List.map_cons, List.map_nil]); first | done | rfl | (simp only [List.length_drop, List.length_take]; rfl)) ?_; (with_reducible refine (fixed_Of.calls (-9000000) t119 _ A2.out).mono ?_); rintro e w28 ⟨rfl, hb⟩; refine ⟨_, rfl, ?_⟩; have n0_ := Aside0.mk (below_step (by repeat (first | (with_reducible first | exact HB.out | apply below_alloc | apply pw_below_drewN | apply below_drew1) | exact HB.out)) hb); clear HB; have HB := n0_; clear n0_; (try clear hb); (try clear hb2); (try clear hk); (try clear hi)) | (go_at_call 22; (with_reducible refine (fixed_Whole.calls (-1) t120 _ A4.out).mono ?_); rintro e w' ⟨rfl, ⟨nd, rfl⟩⟩) | (go_at_call 22; (with_reducible refine (fixed_Whole.calls 511 t121 _ A6.out).mono ?_); rintro e w' ⟨rfl, ⟨nd, rfl⟩⟩) | (go_at_call 20; (with_reducible refine (fixed_Of.calls 8388607 t122 _ A8.out).mono ?_); rintro e w29 ⟨rfl, hb⟩; have n0_ := Aside0.mk (below_step (by repeat (first | (with_reducible first | exact HB.out | apply below_alloc | apply pw_below_drewN | apply below_drew1) | exact HB.out)) hb); clear HB; have HB := n0_; clear n0_; (try clear hb); (try clear hb2); (try clear hk); (try clear hi)) | (go_at_call 20; (with_reducible refine (fixed_Of.calls 8388608 t123 _ A10.out).mono ?_); rintro e w30 ⟨rfl, hb⟩; have n0_ := Aside0.mk (below_step (by repeat (first | (with_reducible first | exact HB.out | apply below_alloc | apply pw_below_drewN | apply below_drew1) | exact HB.out)) hb); clear HB; have HB := n0_; clear n0_; (try clear hb); (try clear hb2); (try clear hk); (try clear hi)) | (go_at_call 20; (with_reducible refine (fixed_Of.calls (-8388608) t124 _ A12.out).mono ?_); rintro e w31 ⟨rfl, hb⟩; have n0_ := Aside0.mk (below_step (by repeat (first | (with_reducible first | exact HB.out | apply below_alloc | apply pw_below_drewN | apply below_drew1) | exact HB.out)) hb); clear HB; have HB := n0_; clear n0_; (try clear hb); (try clear hb2); (try clear hk); (try clear hi)))
                go_meet
                case rel => exact ⟨_, (true), (by first | rfl | (simp; done) | (simp [*]; done)), H', ⟨by first | omega | exact Nat.le_refl _⟩, ⟨by repeat (first | (with_reducible first | exact HB.out | apply below_alloc | apply pw_below_drewN | apply below_drew1) | exact HB.out)⟩⟩
            · rw [if_neg c11] at H
              have c11b0 : (t123 == 2147483647) = false := beq_eq_false_iff_ne.mpr c11
              have c11b1 : (t123 != 2147483647) = true := bne_iff_ne.mpr c11
              have H' := Aside0.mk H
              clear H
              go_wp2_with (first | ((with_reducible refine gate_callee (f := 20) rfl ?_); refine goesL_ (some 1) rfl rfl Try.func20 (by kernel_rfl) rfl #[.int .i64 (-9000000)] rfl (by (try simp only [List.map_toArray, List.map_cons, List.map_nil]); first | done | rfl | (simp only [List.length_drop, List.length_take]; rfl)) ?_; (with_reducible refine (fixed_Of.calls (-9000000) t119 _ A2.out).mono ?_); rintro e w32 ⟨rfl, hb⟩; refine ⟨_, rfl, ?_⟩; have n0_ := Aside0.mk (below_step (by repeat (first | (with_reducible first | exact HB.out | apply below_alloc | apply pw_below_drewN | apply below_drew1) | exact HB.out)) hb); clear HB; have HB := n0_; clear n0_; (try clear hb); (try clear hb2); (try clear hk); (try clear hi)) | (go_at_call 22; (with_reducible refine (fixed_Whole.calls (-1) t120 _ A4.out).mono ?_); rintro e w' ⟨rfl, ⟨nd, rfl⟩⟩) | (go_at_call 22; (with_reducible refine (fixed_Whole.calls 511 t121 _ A6.out).mono ?_); rintro e w' ⟨rfl, ⟨nd, rfl⟩⟩) | (go_at_call 20; (with_reducible refine (fixed_Of.calls 8388607 t122 _ A8.out).mono ?_); rintro e w33 ⟨rfl, hb⟩; have n0_ := Aside0.mk (below_step (by repeat (first | (with_reducible first | exact HB.out | apply below_alloc | apply pw_below_drewN | apply below_drew1) | exact HB.out)) hb); clear HB; have HB := n0_; clear n0_; (try clear hb); (try clear hb2); (try clear hk); (try clear hi)) | (go_at_call 20; (with_reducible refine (fixed_Of.calls 8388608 t123 _ A10.out).mono ?_); rintro e w34 ⟨rfl, hb⟩; have n0_ := Aside0.mk (below_step (by repeat (first | (with_reducible first | exact HB.out | apply below_alloc | apply pw_below_drewN | apply below_drew1) | exact HB.out)) hb); clear HB; have HB := n0_; clear n0_; (try clear hb); (try clear hb2); (try clear hk); (try clear hi)))
              go_meet
              case rel => exact ⟨_, (true), (by first | rfl | (simp; done) | (simp [*]; done)), H', ⟨by first | omega | exact Nat.le_refl _⟩, ⟨by repeat (first | (with_reducible first | exact HB.out | apply below_alloc | apply pw_below_drewN | apply below_drew1) | exact HB.out)⟩⟩
          · rw [if_neg c9] at H
            have c9b0 : (t122 == 2147483392) = false := beq_eq_false_iff_ne.mpr c9
            have c9b1 : (t122 != 2147483392) = true := bne_iff_ne.mpr c9
            have H' := Aside0.mk H
            clear H
            go_wp2_with (first | ((with_reducible refine gate_callee (f := 20) rfl ?_); refine goesL_ (some 1) rfl rfl Try.func20 (by kernel_rfl) rfl #[.int .i64 (-9000000)] rfl (by (try simp only [List.map_toArray, List.map_cons, List.map_nil]); first | done | rfl | (simp only [List.length_drop, List.length_take]; rfl)) ?_; (with_reducible refine (fixed_Of.calls (-9000000) t119 _ A2.out).mono ?_); rintro e w35 ⟨rfl, hb⟩; refine ⟨_, rfl, ?_⟩; have n0_ := Aside0.mk (below_step (by repeat (first | (with_reducible first | exact HB.out | apply below_alloc | apply pw_below_drewN | apply below_drew1) | exact HB.out)) hb); clear HB; have HB := n0_; clear n0_; (try clear hb); (try clear hb2); (try clear hk); (try clear hi)) | (go_at_call 22; (with_reducible refine (fixed_Whole.calls (-1) t120 _ A4.out).mono ?_); rintro e w' ⟨rfl, ⟨nd, rfl⟩⟩) | (go_at_call 22; (with_reducible refine (fixed_Whole.calls 511 t121 _ A6.out).mono ?_); rintro e w' ⟨rfl, ⟨nd, rfl⟩⟩) | (go_at_call 20; (with_reducible refine (fixed_Of.calls 8388607 t122 _ A8.out).mono ?_); rintro e w36 ⟨rfl, hb⟩; have n0_ := Aside0.mk (below_step (by repeat (first | (with_reducible first | exact HB.out | apply below_alloc | apply pw_below_drewN | apply below_drew1) | exact HB.out)) hb); clear HB; have HB := n0_; clear n0_; (try clear hb); (try clear hb2); (try clear hk); (try clear hi)))
            go_meet
            case rel => exact ⟨_, (true), (by first | rfl | (simp; done) | (simp [*]; done)), H', ⟨by first | omega | exact Nat.le_refl _⟩, ⟨by repeat (first | (with_reducible first | exact HB.out | apply below_alloc | apply pw_below_drewN | apply below_drew1) | exact HB.out)⟩⟩
        · rw [if_neg c7] at H
          have c7b0 : (t121 == 1) = false := beq_eq_false_iff_ne.mpr c7
          have c7b1 : (t121 != 1) = true := bne_iff_ne.mpr c7
          have H' := Aside0.mk H
          clear H
          go_wp2_with (first | ((with_reducible refine gate_callee (f := 20) rfl ?_); refine goesL_ (some 1) rfl rfl Try.func20 (by kernel_rfl) rfl #[.int .i64 (-9000000)] rfl (by (try simp only [List.map_toArray, List.map_cons, List.map_nil]); first | done | rfl | (simp only [List.length_drop, List.length_take]; rfl)) ?_; (with_reducible refine (fixed_Of.calls (-9000000) t119 _ A2.out).mono ?_); rintro e w37 ⟨rfl, hb⟩; refine ⟨_, rfl, ?_⟩; have n0_ := Aside0.mk (below_step (by repeat (first | (with_reducible first | exact HB.out | apply below_alloc | apply pw_below_drewN | apply below_drew1) | exact HB.out)) hb); clear HB; have HB := n0_; clear n0_; (try clear hb); (try clear hb2); (try clear hk); (try clear hi)) | (go_at_call 22; (with_reducible refine (fixed_Whole.calls (-1) t120 _ A4.out).mono ?_); rintro e w' ⟨rfl, ⟨nd, rfl⟩⟩) | (go_at_call 22; (with_reducible refine (fixed_Whole.calls 511 t121 _ A6.out).mono ?_); rintro e w' ⟨rfl, ⟨nd, rfl⟩⟩))
          go_meet
          case rel => exact ⟨_, (true), (by first | rfl | (simp; done) | (simp [*]; done)), H', ⟨by first | omega | exact Nat.le_refl _⟩, ⟨by repeat (first | (with_reducible first | exact HB.out | apply below_alloc | apply pw_below_drewN | apply below_drew1) | exact HB.out)⟩⟩
      · rw [if_neg c5] at H
        have c5b0 : (t120 == (-1)) = false := beq_eq_false_iff_ne.mpr c5
        have c5b1 : (t120 != (-1)) = true := bne_iff_ne.mpr c5
        have H' := Aside0.mk H
        clear H
        go_wp2_with (first | ((with_reducible refine gate_callee (f := 20) rfl ?_); refine goesL_ (some 1) rfl rfl Try.func20 (by kernel_rfl) rfl #[.int .i64 (-9000000)] rfl (by (try simp only [List.map_toArray, List.map_cons, List.map_nil]); first | done | rfl | (simp only [List.length_drop, List.length_take]; rfl)) ?_; (with_reducible refine (fixed_Of.calls (-9000000) t119 _ A2.out).mono ?_); rintro e w38 ⟨rfl, hb⟩; refine ⟨_, rfl, ?_⟩; have n0_ := Aside0.mk (below_step (by repeat (first | (with_reducible first | exact HB.out | apply below_alloc | apply pw_below_drewN | apply below_drew1) | exact HB.out)) hb); clear HB; have HB := n0_; clear n0_; (try clear hb); (try clear hb2); (try clear hk); (try clear hi)) | (go_at_call 22; (with_reducible refine (fixed_Whole.calls (-1) t120 _ A4.out).mono ?_); rintro e w' ⟨rfl, ⟨nd, rfl⟩⟩))
        go_meet
        case rel => exact ⟨_, (true), (by first | rfl | (simp; done) | (simp [*]; done)), H', ⟨by first | omega | exact Nat.le_refl _⟩, ⟨by repeat (first | (with_reducible first | exact HB.out | apply below_alloc | apply pw_below_drewN | apply below_drew1) | exact HB.out)⟩⟩
    · rw [if_neg c3] at H
      have c3b0 : (t119 == (-2147483648)) = false := beq_eq_false_iff_ne.mpr c3
      have c3b1 : (t119 != (-2147483648)) = true := bne_iff_ne.mpr c3
      (first | rw [c3b0] | (simp only [i64_w, i32_w]; rw [c3b0]) | skip)
      have H' := Aside0.mk H
      clear H
      go_wp2_with (first | ((with_reducible refine gate_callee (f := 20) rfl ?_); refine goesL_ (some 1) rfl rfl Try.func20 (by kernel_rfl) rfl #[.int .i64 (-9000000)] rfl (by (try simp only [List.map_toArray, List.map_cons, List.map_nil]); first | done | rfl | (simp only [List.length_drop, List.length_take]; rfl)) ?_; (with_reducible refine (fixed_Of.calls (-9000000) t119 _ A2.out).mono ?_); rintro e w39 ⟨rfl, hb⟩; refine ⟨_, rfl, ?_⟩; have n0_ := Aside0.mk (below_step (by repeat (first | (with_reducible first | exact HB.out | apply below_alloc | apply pw_below_drewN | apply below_drew1) | exact HB.out)) hb); clear HB; have HB := n0_; clear n0_; (try clear hb); (try clear hb2); (try clear hk); (try clear hi)))
      go_meet
      case rel => exact ⟨_, (true), (by first | rfl | (simp; done) | (simp [*]; done)), H', ⟨by first | omega | exact Nat.le_refl _⟩, ⟨by repeat (first | (with_reducible first | exact HB.out | apply below_alloc | apply pw_below_drewN | apply below_drew1) | exact HB.out)⟩⟩
  case rest =>
    clear HC1
    try clear c1
    try clear c2
    try clear p2
    try clear c3
    try clear c3b0
    try clear c3b1
    try clear c5
    try clear c5b0
    try clear c5b1
    try clear c7
    try clear c7b0
    try clear c7b1
    try clear c9
    try clear c9b0
    try clear c9b1
    try clear c11
    try clear c11b0
    try clear c11b1
    try clear c12
    try clear c13
    try clear c13b0
    try clear c13b1
    try clear c15
    try clear c15b0
    try clear c15b1
    try clear c20
    obtain ⟨kq, x30_0, rfl, HA, HJ0, HB⟩ := hcut
    cases kq with
    | zero => exact absurd HA.out (by simp [hindcastlaw01_FixedKnown.j0])
    | succ kj0 =>
      have H := HA.out
      clear HA
      simp only [hindcastlaw01_FixedKnown.j0] at H
      by_cases c40 : x30_0 = true
      · subst c40
        have H1 : (some false) = some r := by rw [if_pos rfl] at H; exact H
        clear H
        have H := H1
        clear H1
        obtain rfl := Option.some.inj H
        go_wp2
        go_ret
        exact ⟨by first | rfl | (simp [errW_none, errW_some] <;> rfl) | (simp [*, errW_none, errW_some] <;> rfl), by repeat (first | (with_reducible first | exact HB.out | apply below_alloc | apply pw_below_drewN | apply below_drew1) | exact HB.out)⟩
      · replace c40 := Bool.eq_false_iff.mpr c40
        subst c40
        have H1 : ((fixed_Sub.f (-2147483648) 1).bind fun t127 => (if t127 = (-2147483648) then ((fixed_Neg.f (-2147483648)).bind fun t128 => (if t128 = 2147483647 then ((fixed_Abs.f (-5)).bind fun t129 => (if t129 = 5 then ((fixed_Abs.f (-2147483648)).bind fun t130 => (if t130 = 2147483647 then ((fixed_Mul.f (-1) 1).bind fun t131 => (if t131 = (-1) then ((fixed_Mul.f 2147483647 512).bind fun t132 => (if t132 = 2147483647 then ((fixed_Mul.f (-2147483648) (-2147483648)).bind fun t133 => (hindcastlaw01_FixedKnown.j1 kj0 (t133 != 2147483647))) else (hindcastlaw01_FixedKnown.j1 kj0 true))) else (hindcastlaw01_FixedKnown.j1 kj0 true))) else (hindcastlaw01_FixedKnown.j1 kj0 true))) else (hindcastlaw01_FixedKnown.j1 kj0 true))) else (hindcastlaw01_FixedKnown.j1 kj0 true))) else (hindcastlaw01_FixedKnown.j1 kj0 true))) = some r := by rw [if_neg (show ¬ (false = true) by decide)] at H; exact H
        clear H
        have H := H1
        clear H1
        have HC41 := Aside0.mk H
        clear H
        go_upto_region 3 with (fail)
        go_cut [56] (fun v56 wc => ∃ (kq : Nat) (x56_40 : Bool), v56 = .bool x56_40 ∧ Aside0 (hindcastlaw01_FixedKnown.j1 kq x56_40 = some r) ∧ Aside0 (kq ≤ kj0) ∧ Aside0 (Below w.heap.size w wc))
        case first =>
          have H := HC41.out
          clear HC41
          replace H := Option.bind_eq_some_iff.mp H
          obtain ⟨t127, A420, H⟩ := H
          replace H : (if t127 = (-2147483648) then ((fixed_Neg.f (-2147483648)).bind fun t128 => (if t128 = 2147483647 then ((fixed_Abs.f (-5)).bind fun t129 => (if t129 = 5 then ((fixed_Abs.f (-2147483648)).bind fun t130 => (if t130 = 2147483647 then ((fixed_Mul.f (-1) 1).bind fun t131 => (if t131 = (-1) then ((fixed_Mul.f 2147483647 512).bind fun t132 => (if t132 = 2147483647 then ((fixed_Mul.f (-2147483648) (-2147483648)).bind fun t133 => (hindcastlaw01_FixedKnown.j1 kj0 (t133 != 2147483647))) else (hindcastlaw01_FixedKnown.j1 kj0 true))) else (hindcastlaw01_FixedKnown.j1 kj0 true))) else (hindcastlaw01_FixedKnown.j1 kj0 true))) else (hindcastlaw01_FixedKnown.j1 kj0 true))) else (hindcastlaw01_FixedKnown.j1 kj0 true))) else (hindcastlaw01_FixedKnown.j1 kj0 true)) = some r := H
          have A42 := Aside0.mk A420
          clear A420
          by_cases c43 : t127 = (-2147483648)
          · rw [if_pos c43] at H
            have c43b0 : (t127 == (-2147483648)) = true := beq_iff_eq.mpr c43
            have c43b1 : (t127 != (-2147483648)) = false := bne_eq_false_iff_eq.mpr c43
            clear c43
            (first | rw [c43b0] | (simp only [i64_w, i32_w]; rw [c43b0]) | skip)
            replace H := Option.bind_eq_some_iff.mp H
            obtain ⟨t128, A440, H⟩ := H
            replace H : (if t128 = 2147483647 then ((fixed_Abs.f (-5)).bind fun t129 => (if t129 = 5 then ((fixed_Abs.f (-2147483648)).bind fun t130 => (if t130 = 2147483647 then ((fixed_Mul.f (-1) 1).bind fun t131 => (if t131 = (-1) then ((fixed_Mul.f 2147483647 512).bind fun t132 => (if t132 = 2147483647 then ((fixed_Mul.f (-2147483648) (-2147483648)).bind fun t133 => (hindcastlaw01_FixedKnown.j1 kj0 (t133 != 2147483647))) else (hindcastlaw01_FixedKnown.j1 kj0 true))) else (hindcastlaw01_FixedKnown.j1 kj0 true))) else (hindcastlaw01_FixedKnown.j1 kj0 true))) else (hindcastlaw01_FixedKnown.j1 kj0 true))) else (hindcastlaw01_FixedKnown.j1 kj0 true)) = some r := H
            have A44 := Aside0.mk A440
            clear A440
            by_cases c45 : t128 = 2147483647
            · rw [if_pos c45] at H
              have c45b0 : (t128 == 2147483647) = true := beq_iff_eq.mpr c45
              have c45b1 : (t128 != 2147483647) = false := bne_eq_false_iff_eq.mpr c45
              clear c45
              replace H := Option.bind_eq_some_iff.mp H
              obtain ⟨t129, A460, H⟩ := H
              replace H : (if t129 = 5 then ((fixed_Abs.f (-2147483648)).bind fun t130 => (if t130 = 2147483647 then ((fixed_Mul.f (-1) 1).bind fun t131 => (if t131 = (-1) then ((fixed_Mul.f 2147483647 512).bind fun t132 => (if t132 = 2147483647 then ((fixed_Mul.f (-2147483648) (-2147483648)).bind fun t133 => (hindcastlaw01_FixedKnown.j1 kj0 (t133 != 2147483647))) else (hindcastlaw01_FixedKnown.j1 kj0 true))) else (hindcastlaw01_FixedKnown.j1 kj0 true))) else (hindcastlaw01_FixedKnown.j1 kj0 true))) else (hindcastlaw01_FixedKnown.j1 kj0 true)) = some r := H
              have A46 := Aside0.mk A460
              clear A460
              by_cases c47 : t129 = 5
              · rw [if_pos c47] at H
                have c47b0 : (t129 == 5) = true := beq_iff_eq.mpr c47
                have c47b1 : (t129 != 5) = false := bne_eq_false_iff_eq.mpr c47
                clear c47
                replace H := Option.bind_eq_some_iff.mp H
                obtain ⟨t130, A480, H⟩ := H
                replace H : (if t130 = 2147483647 then ((fixed_Mul.f (-1) 1).bind fun t131 => (if t131 = (-1) then ((fixed_Mul.f 2147483647 512).bind fun t132 => (if t132 = 2147483647 then ((fixed_Mul.f (-2147483648) (-2147483648)).bind fun t133 => (hindcastlaw01_FixedKnown.j1 kj0 (t133 != 2147483647))) else (hindcastlaw01_FixedKnown.j1 kj0 true))) else (hindcastlaw01_FixedKnown.j1 kj0 true))) else (hindcastlaw01_FixedKnown.j1 kj0 true)) = some r := H
                have A48 := Aside0.mk A480
                clear A480
                by_cases c49 : t130 = 2147483647
                · rw [if_pos c49] at H
                  have c49b0 : (t130 == 2147483647) = true := beq_iff_eq.mpr c49
                  have c49b1 : (t130 != 2147483647) = false := bne_eq_false_iff_eq.mpr c49
                  clear c49
                  replace H := Option.bind_eq_some_iff.mp H
                  obtain ⟨t131, A500, H⟩ := H
                  replace H : (if t131 = (-1) then ((fixed_Mul.f 2147483647 512).bind fun t132 => (if t132 = 2147483647 then ((fixed_Mul.f (-2147483648) (-2147483648)).bind fun t133 => (hindcastlaw01_FixedKnown.j1 kj0 (t133 != 2147483647))) else (hindcastlaw01_FixedKnown.j1 kj0 true))) else (hindcastlaw01_FixedKnown.j1 kj0 true)) = some r := H
                  have A50 := Aside0.mk A500
                  clear A500
                  by_cases c51 : t131 = (-1)
                  · rw [if_pos c51] at H
                    have c51b0 : (t131 == (-1)) = true := beq_iff_eq.mpr c51
                    have c51b1 : (t131 != (-1)) = false := bne_eq_false_iff_eq.mpr c51
                    clear c51
                    replace H := Option.bind_eq_some_iff.mp H
                    obtain ⟨t132, A520, H⟩ := H
                    replace H : (if t132 = 2147483647 then ((fixed_Mul.f (-2147483648) (-2147483648)).bind fun t133 => (hindcastlaw01_FixedKnown.j1 kj0 (t133 != 2147483647))) else (hindcastlaw01_FixedKnown.j1 kj0 true)) = some r := H
                    have A52 := Aside0.mk A520
                    clear A520
                    by_cases c53 : t132 = 2147483647
                    · rw [if_pos c53] at H
                      have c53b0 : (t132 == 2147483647) = true := beq_iff_eq.mpr c53
                      have c53b1 : (t132 != 2147483647) = false := bne_eq_false_iff_eq.mpr c53
                      clear c53
                      replace H := Option.bind_eq_some_iff.mp H
                      obtain ⟨t133, A540, H⟩ := H
                      replace H : (hindcastlaw01_FixedKnown.j1 kj0 (t133 != 2147483647)) = some r := H
                      have A54 := Aside0.mk A540
                      clear A540
                      have H' := Aside0.mk H
                      clear H
                      go_wp2_with (first | ((with_reducible refine gate_callee (f := 27) rfl ?_); refine goesL_ (some 31) rfl rfl Try.func27 (by kernel_rfl) rfl #[.int .i32 (-2147483648), .int .i32 1] rfl (by (try simp only [List.map_toArray, List.map_cons, List.map_nil]); first | done | rfl | (simp only [List.length_drop, List.length_take]; rfl)) ?_; (with_reducible refine (fixed_Sub.calls (-2147483648) 1 t127 _ A42.out).mono ?_); rintro e w55 ⟨rfl, hb⟩; refine ⟨_, rfl, ?_⟩; have n0_ := Aside0.mk (below_step (by repeat (first | (with_reducible first | exact HB.out | apply below_alloc | apply pw_below_drewN | apply below_drew1) | exact HB.out)) hb); clear HB; have HB := n0_; clear n0_; (try clear hb); (try clear hb2); (try clear hk); (try clear hi)) | (go_at_call 29; (with_reducible refine (fixed_Neg.calls (-2147483648) t128 _ A44.out).mono ?_); rintro e w56 ⟨rfl, hb⟩; have n0_ := Aside0.mk (below_step (by repeat (first | (with_reducible first | exact HB.out | apply below_alloc | apply pw_below_drewN | apply below_drew1) | exact HB.out)) hb); clear HB; have HB := n0_; clear n0_; (try clear hb); (try clear hb2); (try clear hk); (try clear hi)) | (go_at_call 31; (with_reducible refine (fixed_Abs.calls (-5) t129 _ A46.out).mono ?_); rintro e w57 ⟨rfl, hb⟩; have n0_ := Aside0.mk (below_step (by repeat (first | (with_reducible first | exact HB.out | apply below_alloc | apply pw_below_drewN | apply below_drew1) | exact HB.out)) hb); clear HB; have HB := n0_; clear n0_; (try clear hb); (try clear hb2); (try clear hk); (try clear hi)) | (go_at_call 31; (with_reducible refine (fixed_Abs.calls (-2147483648) t130 _ A48.out).mono ?_); rintro e w58 ⟨rfl, hb⟩; have n0_ := Aside0.mk (below_step (by repeat (first | (with_reducible first | exact HB.out | apply below_alloc | apply pw_below_drewN | apply below_drew1) | exact HB.out)) hb); clear HB; have HB := n0_; clear n0_; (try clear hb); (try clear hb2); (try clear hk); (try clear hi)) | (go_at_call 13; (with_reducible refine (fixed_Mul.calls (-1) 1 t131 _ A50.out).mono ?_); rintro e w59 ⟨rfl, hb⟩; have n0_ := Aside0.mk (below_step (by repeat (first | (with_reducible first | exact HB.out | apply below_alloc | apply pw_below_drewN | apply below_drew1) | exact HB.out)) hb); clear HB; have HB := n0_; clear n0_; (try clear hb); (try clear hb2); (try clear hk); (try clear hi)) | (go_at_call 13; (with_reducible refine (fixed_Mul.calls 2147483647 512 t132 _ A52.out).mono ?_); rintro e w60 ⟨rfl, hb⟩; have n0_ := Aside0.mk (below_step (by repeat (first | (with_reducible first | exact HB.out | apply below_alloc | apply pw_below_drewN | apply below_drew1) | exact HB.out)) hb); clear HB; have HB := n0_; clear n0_; (try clear hb); (try clear hb2); (try clear hk); (try clear hi)) | (go_at_call 13; (with_reducible refine (fixed_Mul.calls (-2147483648) (-2147483648) t133 _ A54.out).mono ?_); rintro e w61 ⟨rfl, hb⟩; have n0_ := Aside0.mk (below_step (by repeat (first | (with_reducible first | exact HB.out | apply below_alloc | apply pw_below_drewN | apply below_drew1) | exact HB.out)) hb); clear HB; have HB := n0_; clear n0_; (try clear hb); (try clear hb2); (try clear hk); (try clear hi)))
                      go_meet
                      case rel => exact ⟨_, ((t133 != 2147483647)), (by first | rfl | (simp; done) | (simp [*]; done)), H', ⟨by have := HJ0.out; first | omega | exact Nat.le_refl _⟩, ⟨by repeat (first | (with_reducible first | exact HB.out | apply below_alloc | apply pw_below_drewN | apply below_drew1) | exact HB.out)⟩⟩
                    · rw [if_neg c53] at H
                      have c53b0 : (t132 == 2147483647) = false := beq_eq_false_iff_ne.mpr c53
                      have c53b1 : (t132 != 2147483647) = true := bne_iff_ne.mpr c53
                      have H' := Aside0.mk H
                      clear H
                      go_wp2_with (first | ((with_reducible refine gate_callee (f := 27) rfl ?_); refine goesL_ (some 31) rfl rfl Try.func27 (by kernel_rfl) rfl #[.int .i32 (-2147483648), .int .i32 1] rfl (by (try simp only [List.map_toArray, List.map_cons, List.map_nil]); first | done | rfl | (simp only [List.length_drop, List.length_take]; rfl)) ?_; (with_reducible refine (fixed_Sub.calls (-2147483648) 1 t127 _ A42.out).mono ?_); rintro e w62 ⟨rfl, hb⟩; refine ⟨_, rfl, ?_⟩; have n0_ := Aside0.mk (below_step (by repeat (first | (with_reducible first | exact HB.out | apply below_alloc | apply pw_below_drewN | apply below_drew1) | exact HB.out)) hb); clear HB; have HB := n0_; clear n0_; (try clear hb); (try clear hb2); (try clear hk); (try clear hi)) | (go_at_call 29; (with_reducible refine (fixed_Neg.calls (-2147483648) t128 _ A44.out).mono ?_); rintro e w63 ⟨rfl, hb⟩; have n0_ := Aside0.mk (below_step (by repeat (first | (with_reducible first | exact HB.out | apply below_alloc | apply pw_below_drewN | apply below_drew1) | exact HB.out)) hb); clear HB; have HB := n0_; clear n0_; (try clear hb); (try clear hb2); (try clear hk); (try clear hi)) | (go_at_call 31; (with_reducible refine (fixed_Abs.calls (-5) t129 _ A46.out).mono ?_); rintro e w64 ⟨rfl, hb⟩; have n0_ := Aside0.mk (below_step (by repeat (first | (with_reducible first | exact HB.out | apply below_alloc | apply pw_below_drewN | apply below_drew1) | exact HB.out)) hb); clear HB; have HB := n0_; clear n0_; (try clear hb); (try clear hb2); (try clear hk); (try clear hi)) | (go_at_call 31; (with_reducible refine (fixed_Abs.calls (-2147483648) t130 _ A48.out).mono ?_); rintro e w65 ⟨rfl, hb⟩; have n0_ := Aside0.mk (below_step (by repeat (first | (with_reducible first | exact HB.out | apply below_alloc | apply pw_below_drewN | apply below_drew1) | exact HB.out)) hb); clear HB; have HB := n0_; clear n0_; (try clear hb); (try clear hb2); (try clear hk); (try clear hi)) | (go_at_call 13; (with_reducible refine (fixed_Mul.calls (-1) 1 t131 _ A50.out).mono ?_); rintro e w66 ⟨rfl, hb⟩; have n0_ := Aside0.mk (below_step (by repeat (first | (with_reducible first | exact HB.out | apply below_alloc | apply pw_below_drewN | apply below_drew1) | exact HB.out)) hb); clear HB; have HB := n0_; clear n0_; (try clear hb); (try clear hb2); (try clear hk); (try clear hi)) | (go_at_call 13; (with_reducible refine (fixed_Mul.calls 2147483647 512 t132 _ A52.out).mono ?_); rintro e w67 ⟨rfl, hb⟩; have n0_ := Aside0.mk (below_step (by repeat (first | (with_reducible first | exact HB.out | apply below_alloc | apply pw_below_drewN | apply below_drew1) | exact HB.out)) hb); clear HB; have HB := n0_; clear n0_; (try clear hb); (try clear hb2); (try clear hk); (try clear hi)))
                      go_meet
                      case rel => exact ⟨_, (true), (by first | rfl | (simp; done) | (simp [*]; done)), H', ⟨by have := HJ0.out; first | omega | exact Nat.le_refl _⟩, ⟨by repeat (first | (with_reducible first | exact HB.out | apply below_alloc | apply pw_below_drewN | apply below_drew1) | exact HB.out)⟩⟩
                  · rw [if_neg c51] at H
                    have c51b0 : (t131 == (-1)) = false := beq_eq_false_iff_ne.mpr c51
                    have c51b1 : (t131 != (-1)) = true := bne_iff_ne.mpr c51
                    have H' := Aside0.mk H
                    clear H
                    go_wp2_with (first | ((with_reducible refine gate_callee (f := 27) rfl ?_); refine goesL_ (some 31) rfl rfl Try.func27 (by kernel_rfl) rfl #[.int .i32 (-2147483648), .int .i32 1] rfl (by (try simp only [List.map_toArray, List.map_cons, List.map_nil]); first | done | rfl | (simp only [List.length_drop, List.length_take]; rfl)) ?_; (with_reducible refine (fixed_Sub.calls (-2147483648) 1 t127 _ A42.out).mono ?_); rintro e w68 ⟨rfl, hb⟩; refine ⟨_, rfl, ?_⟩; have n0_ := Aside0.mk (below_step (by repeat (first | (with_reducible first | exact HB.out | apply below_alloc | apply pw_below_drewN | apply below_drew1) | exact HB.out)) hb); clear HB; have HB := n0_; clear n0_; (try clear hb); (try clear hb2); (try clear hk); (try clear hi)) | (go_at_call 29; (with_reducible refine (fixed_Neg.calls (-2147483648) t128 _ A44.out).mono ?_); rintro e w69 ⟨rfl, hb⟩; have n0_ := Aside0.mk (below_step (by repeat (first | (with_reducible first | exact HB.out | apply below_alloc | apply pw_below_drewN | apply below_drew1) | exact HB.out)) hb); clear HB; have HB := n0_; clear n0_; (try clear hb); (try clear hb2); (try clear hk); (try clear hi)) | (go_at_call 31; (with_reducible refine (fixed_Abs.calls (-5) t129 _ A46.out).mono ?_); rintro e w70 ⟨rfl, hb⟩; have n0_ := Aside0.mk (below_step (by repeat (first | (with_reducible first | exact HB.out | apply below_alloc | apply pw_below_drewN | apply below_drew1) | exact HB.out)) hb); clear HB; have HB := n0_; clear n0_; (try clear hb); (try clear hb2); (try clear hk); (try clear hi)) | (go_at_call 31; (with_reducible refine (fixed_Abs.calls (-2147483648) t130 _ A48.out).mono ?_); rintro e w71 ⟨rfl, hb⟩; have n0_ := Aside0.mk (below_step (by repeat (first | (with_reducible first | exact HB.out | apply below_alloc | apply pw_below_drewN | apply below_drew1) | exact HB.out)) hb); clear HB; have HB := n0_; clear n0_; (try clear hb); (try clear hb2); (try clear hk); (try clear hi)) | (go_at_call 13; (with_reducible refine (fixed_Mul.calls (-1) 1 t131 _ A50.out).mono ?_); rintro e w72 ⟨rfl, hb⟩; have n0_ := Aside0.mk (below_step (by repeat (first | (with_reducible first | exact HB.out | apply below_alloc | apply pw_below_drewN | apply below_drew1) | exact HB.out)) hb); clear HB; have HB := n0_; clear n0_; (try clear hb); (try clear hb2); (try clear hk); (try clear hi)))
                    go_meet
                    case rel => exact ⟨_, (true), (by first | rfl | (simp; done) | (simp [*]; done)), H', ⟨by have := HJ0.out; first | omega | exact Nat.le_refl _⟩, ⟨by repeat (first | (with_reducible first | exact HB.out | apply below_alloc | apply pw_below_drewN | apply below_drew1) | exact HB.out)⟩⟩
                · rw [if_neg c49] at H
                  have c49b0 : (t130 == 2147483647) = false := beq_eq_false_iff_ne.mpr c49
                  have c49b1 : (t130 != 2147483647) = true := bne_iff_ne.mpr c49
                  have H' := Aside0.mk H
                  clear H
                  go_wp2_with (first | ((with_reducible refine gate_callee (f := 27) rfl ?_); refine goesL_ (some 31) rfl rfl Try.func27 (by kernel_rfl) rfl #[.int .i32 (-2147483648), .int .i32 1] rfl (by (try simp only [List.map_toArray, List.map_cons, List.map_nil]); first | done | rfl | (simp only [List.length_drop, List.length_take]; rfl)) ?_; (with_reducible refine (fixed_Sub.calls (-2147483648) 1 t127 _ A42.out).mono ?_); rintro e w73 ⟨rfl, hb⟩; refine ⟨_, rfl, ?_⟩; have n0_ := Aside0.mk (below_step (by repeat (first | (with_reducible first | exact HB.out | apply below_alloc | apply pw_below_drewN | apply below_drew1) | exact HB.out)) hb); clear HB; have HB := n0_; clear n0_; (try clear hb); (try clear hb2); (try clear hk); (try clear hi)) | (go_at_call 29; (with_reducible refine (fixed_Neg.calls (-2147483648) t128 _ A44.out).mono ?_); rintro e w74 ⟨rfl, hb⟩; have n0_ := Aside0.mk (below_step (by repeat (first | (with_reducible first | exact HB.out | apply below_alloc | apply pw_below_drewN | apply below_drew1) | exact HB.out)) hb); clear HB; have HB := n0_; clear n0_; (try clear hb); (try clear hb2); (try clear hk); (try clear hi)) | (go_at_call 31; (with_reducible refine (fixed_Abs.calls (-5) t129 _ A46.out).mono ?_); rintro e w75 ⟨rfl, hb⟩; have n0_ := Aside0.mk (below_step (by repeat (first | (with_reducible first | exact HB.out | apply below_alloc | apply pw_below_drewN | apply below_drew1) | exact HB.out)) hb); clear HB; have HB := n0_; clear n0_; (try clear hb); (try clear hb2); (try clear hk); (try clear hi)) | (go_at_call 31; (with_reducible refine (fixed_Abs.calls (-2147483648) t130 _ A48.out).mono ?_); rintro e w76 ⟨rfl, hb⟩; have n0_ := Aside0.mk (below_step (by repeat (first | (with_reducible first | exact HB.out | apply below_alloc | apply pw_below_drewN | apply below_drew1) | exact HB.out)) hb); clear HB; have HB := n0_; clear n0_; (try clear hb); (try clear hb2); (try clear hk); (try clear hi)))
                  go_meet
                  case rel => exact ⟨_, (true), (by first | rfl | (simp; done) | (simp [*]; done)), H', ⟨by have := HJ0.out; first | omega | exact Nat.le_refl _⟩, ⟨by repeat (first | (with_reducible first | exact HB.out | apply below_alloc | apply pw_below_drewN | apply below_drew1) | exact HB.out)⟩⟩
              · rw [if_neg c47] at H
                have c47b0 : (t129 == 5) = false := beq_eq_false_iff_ne.mpr c47
                have c47b1 : (t129 != 5) = true := bne_iff_ne.mpr c47
                have H' := Aside0.mk H
                clear H
                go_wp2_with (first | ((with_reducible refine gate_callee (f := 27) rfl ?_); refine goesL_ (some 31) rfl rfl Try.func27 (by kernel_rfl) rfl #[.int .i32 (-2147483648), .int .i32 1] rfl (by (try simp only [List.map_toArray, List.map_cons, List.map_nil]); first | done | rfl | (simp only [List.length_drop, List.length_take]; rfl)) ?_; (with_reducible refine (fixed_Sub.calls (-2147483648) 1 t127 _ A42.out).mono ?_); rintro e w77 ⟨rfl, hb⟩; refine ⟨_, rfl, ?_⟩; have n0_ := Aside0.mk (below_step (by repeat (first | (with_reducible first | exact HB.out | apply below_alloc | apply pw_below_drewN | apply below_drew1) | exact HB.out)) hb); clear HB; have HB := n0_; clear n0_; (try clear hb); (try clear hb2); (try clear hk); (try clear hi)) | (go_at_call 29; (with_reducible refine (fixed_Neg.calls (-2147483648) t128 _ A44.out).mono ?_); rintro e w78 ⟨rfl, hb⟩; have n0_ := Aside0.mk (below_step (by repeat (first | (with_reducible first | exact HB.out | apply below_alloc | apply pw_below_drewN | apply below_drew1) | exact HB.out)) hb); clear HB; have HB := n0_; clear n0_; (try clear hb); (try clear hb2); (try clear hk); (try clear hi)) | (go_at_call 31; (with_reducible refine (fixed_Abs.calls (-5) t129 _ A46.out).mono ?_); rintro e w79 ⟨rfl, hb⟩; have n0_ := Aside0.mk (below_step (by repeat (first | (with_reducible first | exact HB.out | apply below_alloc | apply pw_below_drewN | apply below_drew1) | exact HB.out)) hb); clear HB; have HB := n0_; clear n0_; (try clear hb); (try clear hb2); (try clear hk); (try clear hi)))
                go_meet
                case rel => exact ⟨_, (true), (by first | rfl | (simp; done) | (simp [*]; done)), H', ⟨by have := HJ0.out; first | omega | exact Nat.le_refl _⟩, ⟨by repeat (first | (with_reducible first | exact HB.out | apply below_alloc | apply pw_below_drewN | apply below_drew1) | exact HB.out)⟩⟩
            · rw [if_neg c45] at H
              have c45b0 : (t128 == 2147483647) = false := beq_eq_false_iff_ne.mpr c45
              have c45b1 : (t128 != 2147483647) = true := bne_iff_ne.mpr c45
              have H' := Aside0.mk H
              clear H
              go_wp2_with (first | ((with_reducible refine gate_callee (f := 27) rfl ?_); refine goesL_ (some 31) rfl rfl Try.func27 (by kernel_rfl) rfl #[.int .i32 (-2147483648), .int .i32 1] rfl (by (try simp only [List.map_toArray, List.map_cons, List.map_nil]); first | done | rfl | (simp only [List.length_drop, List.length_take]; rfl)) ?_; (with_reducible refine (fixed_Sub.calls (-2147483648) 1 t127 _ A42.out).mono ?_); rintro e w80 ⟨rfl, hb⟩; refine ⟨_, rfl, ?_⟩; have n0_ := Aside0.mk (below_step (by repeat (first | (with_reducible first | exact HB.out | apply below_alloc | apply pw_below_drewN | apply below_drew1) | exact HB.out)) hb); clear HB; have HB := n0_; clear n0_; (try clear hb); (try clear hb2); (try clear hk); (try clear hi)) | (go_at_call 29; (with_reducible refine (fixed_Neg.calls (-2147483648) t128 _ A44.out).mono ?_); rintro e w81 ⟨rfl, hb⟩; have n0_ := Aside0.mk (below_step (by repeat (first | (with_reducible first | exact HB.out | apply below_alloc | apply pw_below_drewN | apply below_drew1) | exact HB.out)) hb); clear HB; have HB := n0_; clear n0_; (try clear hb); (try clear hb2); (try clear hk); (try clear hi)))
              go_meet
              case rel => exact ⟨_, (true), (by first | rfl | (simp; done) | (simp [*]; done)), H', ⟨by have := HJ0.out; first | omega | exact Nat.le_refl _⟩, ⟨by repeat (first | (with_reducible first | exact HB.out | apply below_alloc | apply pw_below_drewN | apply below_drew1) | exact HB.out)⟩⟩
          · rw [if_neg c43] at H
            have c43b0 : (t127 == (-2147483648)) = false := beq_eq_false_iff_ne.mpr c43
            have c43b1 : (t127 != (-2147483648)) = true := bne_iff_ne.mpr c43
            (first | rw [c43b0] | (simp only [i64_w, i32_w]; rw [c43b0]) | skip)
            have H' := Aside0.mk H
            clear H
            go_wp2_with (first | ((with_reducible refine gate_callee (f := 27) rfl ?_); refine goesL_ (some 31) rfl rfl Try.func27 (by kernel_rfl) rfl #[.int .i32 (-2147483648), .int .i32 1] rfl (by (try simp only [List.map_toArray, List.map_cons, List.map_nil]); first | done | rfl | (simp only [List.length_drop, List.length_take]; rfl)) ?_; (with_reducible refine (fixed_Sub.calls (-2147483648) 1 t127 _ A42.out).mono ?_); rintro e w82 ⟨rfl, hb⟩; refine ⟨_, rfl, ?_⟩; have n0_ := Aside0.mk (below_step (by repeat (first | (with_reducible first | exact HB.out | apply below_alloc | apply pw_below_drewN | apply below_drew1) | exact HB.out)) hb); clear HB; have HB := n0_; clear n0_; (try clear hb); (try clear hb2); (try clear hk); (try clear hi)))
            go_meet
            case rel => exact ⟨_, (true), (by first | rfl | (simp; done) | (simp [*]; done)), H', ⟨by have := HJ0.out; first | omega | exact Nat.le_refl _⟩, ⟨by repeat (first | (with_reducible first | exact HB.out | apply below_alloc | apply pw_below_drewN | apply below_drew1) | exact HB.out)⟩⟩
        case rest =>
          clear HC41
          try clear c1
          try clear c2
          try clear p2
          try clear c3
          try clear c3b0
          try clear c3b1
          try clear c4
          try clear c5
          try clear c5b0
          try clear c5b1
          try clear c7
          try clear c7b0
          try clear c7b1
          try clear c9
          try clear c9b0
          try clear c9b1
          try clear c11
          try clear c11b0
          try clear c11b1
          try clear c12
          try clear c13
          try clear c13b0
          try clear c13b1
          try clear c15
          try clear c15b0
          try clear c15b1
          try clear c20
          try clear c27
          try clear c40
          try clear c43
          try clear c43b0
          try clear c43b1
          try clear c45
          try clear c45b0
          try clear c45b1
          try clear c47
          try clear c47b0
          try clear c47b1
          try clear c49
          try clear c49b0
          try clear c49b1
          try clear c51
          try clear c51b0
          try clear c51b1
          try clear c53
          try clear c53b0
          try clear c53b1
          try clear p2
          obtain ⟨kq, x56_40, rfl, HA, HJ40, HB⟩ := hcut
          cases kq with
          | zero => exact absurd HA.out (by simp [hindcastlaw01_FixedKnown.j1])
          | succ kj40 =>
            have H := HA.out
            clear HA
            simp only [hindcastlaw01_FixedKnown.j1] at H
            by_cases c83 : x56_40 = true
            · subst c83
              have H1 : (some false) = some r := by rw [if_pos rfl] at H; exact H
              clear H
              have H := H1
              clear H1
              obtain rfl := Option.some.inj H
              go_wp2
              go_ret
              exact ⟨by first | rfl | (simp [errW_none, errW_some] <;> rfl) | (simp [*, errW_none, errW_some] <;> rfl), by repeat (first | (with_reducible first | exact HB.out | apply below_alloc | apply pw_below_drewN | apply below_drew1) | exact HB.out)⟩
            · replace c83 := Bool.eq_false_iff.mpr c83
              subst c83
              have H1 : ((fixed_Div.f (-1) 512).bind fun t134 => (if t134 = (-1) then ((fixed_Div.f 1 0).bind fun t135 => (if t135 = 2147483647 then ((fixed_Div.f (-1) 0).bind fun t136 => (if t136 = (-2147483648) then ((fixed_Div.f 0 0).bind fun t137 => (if t137 = 0 then ((fixed_Div.f (-2147483648) (-1)).bind fun t138 => (if t138 = 2147483647 then ((fixed_Div.f 1 (-512)).bind fun t139 => (if t139 = (-1) then ((fixed_Div.f (-1) (-512)).bind fun t140 => (hindcastlaw01_FixedKnown.j2 kj40 (t140 != 0))) else (hindcastlaw01_FixedKnown.j2 kj40 true))) else (hindcastlaw01_FixedKnown.j2 kj40 true))) else (hindcastlaw01_FixedKnown.j2 kj40 true))) else (hindcastlaw01_FixedKnown.j2 kj40 true))) else (hindcastlaw01_FixedKnown.j2 kj40 true))) else (hindcastlaw01_FixedKnown.j2 kj40 true))) = some r := by rw [if_neg (show ¬ (false = true) by decide)] at H; exact H
              clear H
              have H := H1
              clear H1
              have HC84 := Aside0.mk H
              clear H
              go_upto_region 5 with (fail)
              go_cut [82] (fun v82 wc => ∃ (kq : Nat) (x82_83 : Bool), v82 = .bool x82_83 ∧ Aside0 (hindcastlaw01_FixedKnown.j2 kq x82_83 = some r) ∧ Aside0 (kq ≤ kj40) ∧ Aside0 (Below w.heap.size w wc))
              case first =>
                have H := HC84.out
                clear HC84
                replace H := Option.bind_eq_some_iff.mp H
                obtain ⟨t134, A850, H⟩ := H
                replace H : (if t134 = (-1) then ((fixed_Div.f 1 0).bind fun t135 => (if t135 = 2147483647 then ((fixed_Div.f (-1) 0).bind fun t136 => (if t136 = (-2147483648) then ((fixed_Div.f 0 0).bind fun t137 => (if t137 = 0 then ((fixed_Div.f (-2147483648) (-1)).bind fun t138 => (if t138 = 2147483647 then ((fixed_Div.f 1 (-512)).bind fun t139 => (if t139 = (-1) then ((fixed_Div.f (-1) (-512)).bind fun t140 => (hindcastlaw01_FixedKnown.j2 kj40 (t140 != 0))) else (hindcastlaw01_FixedKnown.j2 kj40 true))) else (hindcastlaw01_FixedKnown.j2 kj40 true))) else (hindcastlaw01_FixedKnown.j2 kj40 true))) else (hindcastlaw01_FixedKnown.j2 kj40 true))) else (hindcastlaw01_FixedKnown.j2 kj40 true))) else (hindcastlaw01_FixedKnown.j2 kj40 true)) = some r := H
                have A85 := Aside0.mk A850
                clear A850
                by_cases c86 : t134 = (-1)
                · rw [if_pos c86] at H
                  have c86b0 : (t134 == (-1)) = true := beq_iff_eq.mpr c86
                  have c86b1 : (t134 != (-1)) = false := bne_eq_false_iff_eq.mpr c86
                  clear c86
                  (first | rw [c86b0] | (simp only [i64_w, i32_w]; rw [c86b0]) | skip)
                  replace H := Option.bind_eq_some_iff.mp H
                  obtain ⟨t135, A870, H⟩ := H
                  replace H : (if t135 = 2147483647 then ((fixed_Div.f (-1) 0).bind fun t136 => (if t136 = (-2147483648) then ((fixed_Div.f 0 0).bind fun t137 => (if t137 = 0 then ((fixed_Div.f (-2147483648) (-1)).bind fun t138 => (if t138 = 2147483647 then ((fixed_Div.f 1 (-512)).bind fun t139 => (if t139 = (-1) then ((fixed_Div.f (-1) (-512)).bind fun t140 => (hindcastlaw01_FixedKnown.j2 kj40 (t140 != 0))) else (hindcastlaw01_FixedKnown.j2 kj40 true))) else (hindcastlaw01_FixedKnown.j2 kj40 true))) else (hindcastlaw01_FixedKnown.j2 kj40 true))) else (hindcastlaw01_FixedKnown.j2 kj40 true))) else (hindcastlaw01_FixedKnown.j2 kj40 true)) = some r := H
                  have A87 := Aside0.mk A870
                  clear A870
                  by_cases c88 : t135 = 2147483647
                  · rw [if_pos c88] at H
                    have c88b0 : (t135 == 2147483647) = true := beq_iff_eq.mpr c88
                    have c88b1 : (t135 != 2147483647) = false := bne_eq_false_iff_eq.mpr c88
                    clear c88
                    replace H := Option.bind_eq_some_iff.mp H
                    obtain ⟨t136, A890, H⟩ := H
                    replace H : (if t136 = (-2147483648) then ((fixed_Div.f 0 0).bind fun t137 => (if t137 = 0 then ((fixed_Div.f (-2147483648) (-1)).bind fun t138 => (if t138 = 2147483647 then ((fixed_Div.f 1 (-512)).bind fun t139 => (if t139 = (-1) then ((fixed_Div.f (-1) (-512)).bind fun t140 => (hindcastlaw01_FixedKnown.j2 kj40 (t140 != 0))) else (hindcastlaw01_FixedKnown.j2 kj40 true))) else (hindcastlaw01_FixedKnown.j2 kj40 true))) else (hindcastlaw01_FixedKnown.j2 kj40 true))) else (hindcastlaw01_FixedKnown.j2 kj40 true)) = some r := H
                    have A89 := Aside0.mk A890
                    clear A890
                    by_cases c90 : t136 = (-2147483648)
                    · rw [if_pos c90] at H
                      have c90b0 : (t136 == (-2147483648)) = true := beq_iff_eq.mpr c90
                      have c90b1 : (t136 != (-2147483648)) = false := bne_eq_false_iff_eq.mpr c90
                      clear c90
                      replace H := Option.bind_eq_some_iff.mp H
                      obtain ⟨t137, A910, H⟩ := H
                      replace H : (if t137 = 0 then ((fixed_Div.f (-2147483648) (-1)).bind fun t138 => (if t138 = 2147483647 then ((fixed_Div.f 1 (-512)).bind fun t139 => (if t139 = (-1) then ((fixed_Div.f (-1) (-512)).bind fun t140 => (hindcastlaw01_FixedKnown.j2 kj40 (t140 != 0))) else (hindcastlaw01_FixedKnown.j2 kj40 true))) else (hindcastlaw01_FixedKnown.j2 kj40 true))) else (hindcastlaw01_FixedKnown.j2 kj40 true)) = some r := H
                      have A91 := Aside0.mk A910
                      clear A910
                      by_cases c92 : t137 = 0
                      · rw [if_pos c92] at H
                        have c92b0 : (t137 == 0) = true := beq_iff_eq.mpr c92
                        have c92b1 : (t137 != 0) = false := bne_eq_false_iff_eq.mpr c92
                        clear c92
                        replace H := Option.bind_eq_some_iff.mp H
                        obtain ⟨t138, A930, H⟩ := H
                        replace H : (if t138 = 2147483647 then ((fixed_Div.f 1 (-512)).bind fun t139 => (if t139 = (-1) then ((fixed_Div.f (-1) (-512)).bind fun t140 => (hindcastlaw01_FixedKnown.j2 kj40 (t140 != 0))) else (hindcastlaw01_FixedKnown.j2 kj40 true))) else (hindcastlaw01_FixedKnown.j2 kj40 true)) = some r := H
                        have A93 := Aside0.mk A930
                        clear A930
                        by_cases c94 : t138 = 2147483647
                        · rw [if_pos c94] at H
                          have c94b0 : (t138 == 2147483647) = true := beq_iff_eq.mpr c94
                          have c94b1 : (t138 != 2147483647) = false := bne_eq_false_iff_eq.mpr c94
                          clear c94
                          replace H := Option.bind_eq_some_iff.mp H
                          obtain ⟨t139, A950, H⟩ := H
                          replace H : (if t139 = (-1) then ((fixed_Div.f (-1) (-512)).bind fun t140 => (hindcastlaw01_FixedKnown.j2 kj40 (t140 != 0))) else (hindcastlaw01_FixedKnown.j2 kj40 true)) = some r := H
                          have A95 := Aside0.mk A950
                          clear A950
                          by_cases c96 : t139 = (-1)
                          · rw [if_pos c96] at H
                            have c96b0 : (t139 == (-1)) = true := beq_iff_eq.mpr c96
                            have c96b1 : (t139 != (-1)) = false := bne_eq_false_iff_eq.mpr c96
                            clear c96
                            replace H := Option.bind_eq_some_iff.mp H
                            obtain ⟨t140, A970, H⟩ := H
                            replace H : (hindcastlaw01_FixedKnown.j2 kj40 (t140 != 0)) = some r := H
                            have A97 := Aside0.mk A970
                            clear A970
                            have H' := Aside0.mk H
                            clear H
                            go_wp2_with (first | ((with_reducible refine gate_callee (f := 16) rfl ?_); refine goesL_ (some 57) rfl rfl Try.func16 (by kernel_rfl) rfl #[.int .i32 (-1), .int .i32 512] rfl (by (try simp only [List.map_toArray, List.map_cons, List.map_nil]); first | done | rfl | (simp only [List.length_drop, List.length_take]; rfl)) ?_; (with_reducible refine (fixed_Div.calls (-1) 512 t134 _ A85.out).mono ?_); rintro e w98 ⟨rfl, hb⟩; refine ⟨_, rfl, ?_⟩; have n0_ := Aside0.mk (below_step (by repeat (first | (with_reducible first | exact HB.out | apply below_alloc | apply pw_below_drewN | apply below_drew1) | exact HB.out)) hb); clear HB; have HB := n0_; clear n0_; (try clear hb); (try clear hb2); (try clear hk); (try clear hi)) | (go_at_call 16; (with_reducible refine (fixed_Div.calls 1 0 t135 _ A87.out).mono ?_); rintro e w99 ⟨rfl, hb⟩; have n0_ := Aside0.mk (below_step (by repeat (first | (with_reducible first | exact HB.out | apply below_alloc | apply pw_below_drewN | apply below_drew1) | exact HB.out)) hb); clear HB; have HB := n0_; clear n0_; (try clear hb); (try clear hb2); (try clear hk); (try clear hi)) | (go_at_call 16; (with_reducible refine (fixed_Div.calls (-1) 0 t136 _ A89.out).mono ?_); rintro e w100 ⟨rfl, hb⟩; have n0_ := Aside0.mk (below_step (by repeat (first | (with_reducible first | exact HB.out | apply below_alloc | apply pw_below_drewN | apply below_drew1) | exact HB.out)) hb); clear HB; have HB := n0_; clear n0_; (try clear hb); (try clear hb2); (try clear hk); (try clear hi)) | (go_at_call 16; (with_reducible refine (fixed_Div.calls 0 0 t137 _ A91.out).mono ?_); rintro e w101 ⟨rfl, hb⟩; have n0_ := Aside0.mk (below_step (by repeat (first | (with_reducible first | exact HB.out | apply below_alloc | apply pw_below_drewN | apply below_drew1) | exact HB.out)) hb); clear HB; have HB := n0_; clear n0_; (try clear hb); (try clear hb2); (try clear hk); (try clear hi)) | (go_at_call 16; (with_reducible refine (fixed_Div.calls (-2147483648) (-1) t138 _ A93.out).mono ?_); rintro e w102 ⟨rfl, hb⟩; have n0_ := Aside0.mk (below_step (by repeat (first | (with_reducible first | exact HB.out | apply below_alloc | apply pw_below_drewN | apply below_drew1) | exact HB.out)) hb); clear HB; have HB := n0_; clear n0_; (try clear hb); (try clear hb2); (try clear hk); (try clear hi)) | (go_at_call 16; (with_reducible refine (fixed_Div.calls 1 (-512) t139 _ A95.out).mono ?_); rintro e w103 ⟨rfl, hb⟩; have n0_ := Aside0.mk (below_step (by repeat (first | (with_reducible first | exact HB.out | apply below_alloc | apply pw_below_drewN | apply below_drew1) | exact HB.out)) hb); clear HB; have HB := n0_; clear n0_; (try clear hb); (try clear hb2); (try clear hk); (try clear hi)) | (go_at_call 16; (with_reducible refine (fixed_Div.calls (-1) (-512) t140 _ A97.out).mono ?_); rintro e w104 ⟨rfl, hb⟩; have n0_ := Aside0.mk (below_step (by repeat (first | (with_reducible first | exact HB.out | apply below_alloc | apply pw_below_drewN | apply below_drew1) | exact HB.out)) hb); clear HB; have HB := n0_; clear n0_; (try clear hb); (try clear hb2); (try clear hk); (try clear hi)))
                            go_meet
                            case rel => exact ⟨_, ((t140 != 0)), (by first | rfl | (simp; done) | (simp [*]; done)), H', ⟨by have := HJ0.out; have := HJ40.out; first | omega | exact Nat.le_refl _⟩, ⟨by repeat (first | (with_reducible first | exact HB.out | apply below_alloc | apply pw_below_drewN | apply below_drew1) | exact HB.out)⟩⟩
                          · rw [if_neg c96] at H
                            have c96b0 : (t139 == (-1)) = false := beq_eq_false_iff_ne.mpr c96
                            have c96b1 : (t139 != (-1)) = true := bne_iff_ne.mpr c96
                            have H' := Aside0.mk H
                            clear H
                            go_wp2_with (first | ((with_reducible refine gate_callee (f := 16) rfl ?_); refine goesL_ (some 57) rfl rfl Try.func16 (by kernel_rfl) rfl #[.int .i32 (-1), .int .i32 512] rfl (by (try simp only [List.map_toArray, List.map_cons, List.map_nil]); first | done | rfl | (simp only [List.length_drop, List.length_take]; rfl)) ?_; (with_reducible refine (fixed_Div.calls (-1) 512 t134 _ A85.out).mono ?_); rintro e w105 ⟨rfl, hb⟩; refine ⟨_, rfl, ?_⟩; have n0_ := Aside0.mk (below_step (by repeat (first | (with_reducible first | exact HB.out | apply below_alloc | apply pw_below_drewN | apply below_drew1) | exact HB.out)) hb); clear HB; have HB := n0_; clear n0_; (try clear hb); (try clear hb2); (try clear hk); (try clear hi)) | (go_at_call 16; (with_reducible refine (fixed_Div.calls 1 0 t135 _ A87.out).mono ?_); rintro e w106 ⟨rfl, hb⟩; have n0_ := Aside0.mk (below_step (by repeat (first | (with_reducible first | exact HB.out | apply below_alloc | apply pw_below_drewN | apply below_drew1) | exact HB.out)) hb); clear HB; have HB := n0_; clear n0_; (try clear hb); (try clear hb2); (try clear hk); (try clear hi)) | (go_at_call 16; (with_reducible refine (fixed_Div.calls (-1) 0 t136 _ A89.out).mono ?_); rintro e w107 ⟨rfl, hb⟩; have n0_ := Aside0.mk (below_step (by repeat (first | (with_reducible first | exact HB.out | apply below_alloc | apply pw_below_drewN | apply below_drew1) | exact HB.out)) hb); clear HB; have HB := n0_; clear n0_; (try clear hb); (try clear hb2); (try clear hk); (try clear hi)) | (go_at_call 16; (with_reducible refine (fixed_Div.calls 0 0 t137 _ A91.out).mono ?_); rintro e w108 ⟨rfl, hb⟩; have n0_ := Aside0.mk (below_step (by repeat (first | (with_reducible first | exact HB.out | apply below_alloc | apply pw_below_drewN | apply below_drew1) | exact HB.out)) hb); clear HB; have HB := n0_; clear n0_; (try clear hb); (try clear hb2); (try clear hk); (try clear hi)) | (go_at_call 16; (with_reducible refine (fixed_Div.calls (-2147483648) (-1) t138 _ A93.out).mono ?_); rintro e w109 ⟨rfl, hb⟩; have n0_ := Aside0.mk (below_step (by repeat (first | (with_reducible first | exact HB.out | apply below_alloc | apply pw_below_drewN | apply below_drew1) | exact HB.out)) hb); clear HB; have HB := n0_; clear n0_; (try clear hb); (try clear hb2); (try clear hk); (try clear hi)) | (go_at_call 16; (with_reducible refine (fixed_Div.calls 1 (-512) t139 _ A95.out).mono ?_); rintro e w110 ⟨rfl, hb⟩; have n0_ := Aside0.mk (below_step (by repeat (first | (with_reducible first | exact HB.out | apply below_alloc | apply pw_below_drewN | apply below_drew1) | exact HB.out)) hb); clear HB; have HB := n0_; clear n0_; (try clear hb); (try clear hb2); (try clear hk); (try clear hi)))
                            go_meet
                            case rel => exact ⟨_, (true), (by first | rfl | (simp; done) | (simp [*]; done)), H', ⟨by have := HJ0.out; have := HJ40.out; first | omega | exact Nat.le_refl _⟩, ⟨by repeat (first | (with_reducible first | exact HB.out | apply below_alloc | apply pw_below_drewN | apply below_drew1) | exact HB.out)⟩⟩
                        · rw [if_neg c94] at H
                          have c94b0 : (t138 == 2147483647) = false := beq_eq_false_iff_ne.mpr c94
                          have c94b1 : (t138 != 2147483647) = true := bne_iff_ne.mpr c94
                          have H' := Aside0.mk H
                          clear H
                          go_wp2_with (first | ((with_reducible refine gate_callee (f := 16) rfl ?_); refine goesL_ (some 57) rfl rfl Try.func16 (by kernel_rfl) rfl #[.int .i32 (-1), .int .i32 512] rfl (by (try simp only [List.map_toArray, List.map_cons, List.map_nil]); first | done | rfl | (simp only [List.length_drop, List.length_take]; rfl)) ?_; (with_reducible refine (fixed_Div.calls (-1) 512 t134 _ A85.out).mono ?_); rintro e w111 ⟨rfl, hb⟩; refine ⟨_, rfl, ?_⟩; have n0_ := Aside0.mk (below_step (by repeat (first | (with_reducible first | exact HB.out | apply below_alloc | apply pw_below_drewN | apply below_drew1) | exact HB.out)) hb); clear HB; have HB := n0_; clear n0_; (try clear hb); (try clear hb2); (try clear hk); (try clear hi)) | (go_at_call 16; (with_reducible refine (fixed_Div.calls 1 0 t135 _ A87.out).mono ?_); rintro e w112 ⟨rfl, hb⟩; have n0_ := Aside0.mk (below_step (by repeat (first | (with_reducible first | exact HB.out | apply below_alloc | apply pw_below_drewN | apply below_drew1) | exact HB.out)) hb); clear HB; have HB := n0_; clear n0_; (try clear hb); (try clear hb2); (try clear hk); (try clear hi)) | (go_at_call 16; (with_reducible refine (fixed_Div.calls (-1) 0 t136 _ A89.out).mono ?_); rintro e w113 ⟨rfl, hb⟩; have n0_ := Aside0.mk (below_step (by repeat (first | (with_reducible first | exact HB.out | apply below_alloc | apply pw_below_drewN | apply below_drew1) | exact HB.out)) hb); clear HB; have HB := n0_; clear n0_; (try clear hb); (try clear hb2); (try clear hk); (try clear hi)) | (go_at_call 16; (with_reducible refine (fixed_Div.calls 0 0 t137 _ A91.out).mono ?_); rintro e w114 ⟨rfl, hb⟩; have n0_ := Aside0.mk (below_step (by repeat (first | (with_reducible first | exact HB.out | apply below_alloc | apply pw_below_drewN | apply below_drew1) | exact HB.out)) hb); clear HB; have HB := n0_; clear n0_; (try clear hb); (try clear hb2); (try clear hk); (try clear hi)) | (go_at_call 16; (with_reducible refine (fixed_Div.calls (-2147483648) (-1) t138 _ A93.out).mono ?_); rintro e w115 ⟨rfl, hb⟩; have n0_ := Aside0.mk (below_step (by repeat (first | (with_reducible first | exact HB.out | apply below_alloc | apply pw_below_drewN | apply below_drew1) | exact HB.out)) hb); clear HB; have HB := n0_; clear n0_; (try clear hb); (try clear hb2); (try clear hk); (try clear hi)))
                          go_meet
                          case rel => exact ⟨_, (true), (by first | rfl | (simp; done) | (simp [*]; done)), H', ⟨by have := HJ0.out; have := HJ40.out; first | omega | exact Nat.le_refl _⟩, ⟨by repeat (first | (with_reducible first | exact HB.out | apply below_alloc | apply pw_below_drewN | apply below_drew1) | exact HB.out)⟩⟩
                      · rw [if_neg c92] at H
                        have c92b0 : (t137 == 0) = false := beq_eq_false_iff_ne.mpr c92
                        have c92b1 : (t137 != 0) = true := bne_iff_ne.mpr c92
                        have H' := Aside0.mk H
                        clear H
                        go_wp2_with (first | ((with_reducible refine gate_callee (f := 16) rfl ?_); refine goesL_ (some 57) rfl rfl Try.func16 (by kernel_rfl) rfl #[.int .i32 (-1), .int .i32 512] rfl (by (try simp only [List.map_toArray, List.map_cons, List.map_nil]); first | done | rfl | (simp only [List.length_drop, List.length_take]; rfl)) ?_; (with_reducible refine (fixed_Div.calls (-1) 512 t134 _ A85.out).mono ?_); rintro e w116 ⟨rfl, hb⟩; refine ⟨_, rfl, ?_⟩; have n0_ := Aside0.mk (below_step (by repeat (first | (with_reducible first | exact HB.out | apply below_alloc | apply pw_below_drewN | apply below_drew1) | exact HB.out)) hb); clear HB; have HB := n0_; clear n0_; (try clear hb); (try clear hb2); (try clear hk); (try clear hi)) | (go_at_call 16; (with_reducible refine (fixed_Div.calls 1 0 t135 _ A87.out).mono ?_); rintro e w117 ⟨rfl, hb⟩; have n0_ := Aside0.mk (below_step (by repeat (first | (with_reducible first | exact HB.out | apply below_alloc | apply pw_below_drewN | apply below_drew1) | exact HB.out)) hb); clear HB; have HB := n0_; clear n0_; (try clear hb); (try clear hb2); (try clear hk); (try clear hi)) | (go_at_call 16; (with_reducible refine (fixed_Div.calls (-1) 0 t136 _ A89.out).mono ?_); rintro e w118 ⟨rfl, hb⟩; have n0_ := Aside0.mk (below_step (by repeat (first | (with_reducible first | exact HB.out | apply below_alloc | apply pw_below_drewN | apply below_drew1) | exact HB.out)) hb); clear HB; have HB := n0_; clear n0_; (try clear hb); (try clear hb2); (try clear hk); (try clear hi)) | (go_at_call 16; (with_reducible refine (fixed_Div.calls 0 0 t137 _ A91.out).mono ?_); rintro e w119 ⟨rfl, hb⟩; have n0_ := Aside0.mk (below_step (by repeat (first | (with_reducible first | exact HB.out | apply below_alloc | apply pw_below_drewN | apply below_drew1) | exact HB.out)) hb); clear HB; have HB := n0_; clear n0_; (try clear hb); (try clear hb2); (try clear hk); (try clear hi)))
                        go_meet
                        case rel => exact ⟨_, (true), (by first | rfl | (simp; done) | (simp [*]; done)), H', ⟨by have := HJ0.out; have := HJ40.out; first | omega | exact Nat.le_refl _⟩, ⟨by repeat (first | (with_reducible first | exact HB.out | apply below_alloc | apply pw_below_drewN | apply below_drew1) | exact HB.out)⟩⟩
                    · rw [if_neg c90] at H
                      have c90b0 : (t136 == (-2147483648)) = false := beq_eq_false_iff_ne.mpr c90
                      have c90b1 : (t136 != (-2147483648)) = true := bne_iff_ne.mpr c90
                      have H' := Aside0.mk H
                      clear H
                      go_wp2_with (first | ((with_reducible refine gate_callee (f := 16) rfl ?_); refine goesL_ (some 57) rfl rfl Try.func16 (by kernel_rfl) rfl #[.int .i32 (-1), .int .i32 512] rfl (by (try simp only [List.map_toArray, List.map_cons, List.map_nil]); first | done | rfl | (simp only [List.length_drop, List.length_take]; rfl)) ?_; (with_reducible refine (fixed_Div.calls (-1) 512 t134 _ A85.out).mono ?_); rintro e w120 ⟨rfl, hb⟩; refine ⟨_, rfl, ?_⟩; have n0_ := Aside0.mk (below_step (by repeat (first | (with_reducible first | exact HB.out | apply below_alloc | apply pw_below_drewN | apply below_drew1) | exact HB.out)) hb); clear HB; have HB := n0_; clear n0_; (try clear hb); (try clear hb2); (try clear hk); (try clear hi)) | (go_at_call 16; (with_reducible refine (fixed_Div.calls 1 0 t135 _ A87.out).mono ?_); rintro e w121 ⟨rfl, hb⟩; have n0_ := Aside0.mk (below_step (by repeat (first | (with_reducible first | exact HB.out | apply below_alloc | apply pw_below_drewN | apply below_drew1) | exact HB.out)) hb); clear HB; have HB := n0_; clear n0_; (try clear hb); (try clear hb2); (try clear hk); (try clear hi)) | (go_at_call 16; (with_reducible refine (fixed_Div.calls (-1) 0 t136 _ A89.out).mono ?_); rintro e w122 ⟨rfl, hb⟩; have n0_ := Aside0.mk (below_step (by repeat (first | (with_reducible first | exact HB.out | apply below_alloc | apply pw_below_drewN | apply below_drew1) | exact HB.out)) hb); clear HB; have HB := n0_; clear n0_; (try clear hb); (try clear hb2); (try clear hk); (try clear hi)))
                      go_meet
                      case rel => exact ⟨_, (true), (by first | rfl | (simp; done) | (simp [*]; done)), H', ⟨by have := HJ0.out; have := HJ40.out; first | omega | exact Nat.le_refl _⟩, ⟨by repeat (first | (with_reducible first | exact HB.out | apply below_alloc | apply pw_below_drewN | apply below_drew1) | exact HB.out)⟩⟩
                  · rw [if_neg c88] at H
                    have c88b0 : (t135 == 2147483647) = false := beq_eq_false_iff_ne.mpr c88
                    have c88b1 : (t135 != 2147483647) = true := bne_iff_ne.mpr c88
                    have H' := Aside0.mk H
                    clear H
                    go_wp2_with (first | ((with_reducible refine gate_callee (f := 16) rfl ?_); refine goesL_ (some 57) rfl rfl Try.func16 (by kernel_rfl) rfl #[.int .i32 (-1), .int .i32 512] rfl (by (try simp only [List.map_toArray, List.map_cons, List.map_nil]); first | done | rfl | (simp only [List.length_drop, List.length_take]; rfl)) ?_; (with_reducible refine (fixed_Div.calls (-1) 512 t134 _ A85.out).mono ?_); rintro e w123 ⟨rfl, hb⟩; refine ⟨_, rfl, ?_⟩; have n0_ := Aside0.mk (below_step (by repeat (first | (with_reducible first | exact HB.out | apply below_alloc | apply pw_below_drewN | apply below_drew1) | exact HB.out)) hb); clear HB; have HB := n0_; clear n0_; (try clear hb); (try clear hb2); (try clear hk); (try clear hi)) | (go_at_call 16; (with_reducible refine (fixed_Div.calls 1 0 t135 _ A87.out).mono ?_); rintro e w124 ⟨rfl, hb⟩; have n0_ := Aside0.mk (below_step (by repeat (first | (with_reducible first | exact HB.out | apply below_alloc | apply pw_below_drewN | apply below_drew1) | exact HB.out)) hb); clear HB; have HB := n0_; clear n0_; (try clear hb); (try clear hb2); (try clear hk); (try clear hi)))
                    go_meet
                    case rel => exact ⟨_, (true), (by first | rfl | (simp; done) | (simp [*]; done)), H', ⟨by have := HJ0.out; have := HJ40.out; first | omega | exact Nat.le_refl _⟩, ⟨by repeat (first | (with_reducible first | exact HB.out | apply below_alloc | apply pw_below_drewN | apply below_drew1) | exact HB.out)⟩⟩
                · rw [if_neg c86] at H
                  have c86b0 : (t134 == (-1)) = false := beq_eq_false_iff_ne.mpr c86
                  have c86b1 : (t134 != (-1)) = true := bne_iff_ne.mpr c86
                  (first | rw [c86b0] | (simp only [i64_w, i32_w]; rw [c86b0]) | skip)
                  have H' := Aside0.mk H
                  clear H
                  go_wp2_with (first | ((with_reducible refine gate_callee (f := 16) rfl ?_); refine goesL_ (some 57) rfl rfl Try.func16 (by kernel_rfl) rfl #[.int .i32 (-1), .int .i32 512] rfl (by (try simp only [List.map_toArray, List.map_cons, List.map_nil]); first | done | rfl | (simp only [List.length_drop, List.length_take]; rfl)) ?_; (with_reducible refine (fixed_Div.calls (-1) 512 t134 _ A85.out).mono ?_); rintro e w125 ⟨rfl, hb⟩; refine ⟨_, rfl, ?_⟩; have n0_ := Aside0.mk (below_step (by repeat (first | (with_reducible first | exact HB.out | apply below_alloc | apply pw_below_drewN | apply below_drew1) | exact HB.out)) hb); clear HB; have HB := n0_; clear n0_; (try clear hb); (try clear hb2); (try clear hk); (try clear hi)))
                  go_meet
                  case rel => exact ⟨_, (true), (by first | rfl | (simp; done) | (simp [*]; done)), H', ⟨by have := HJ0.out; have := HJ40.out; first | omega | exact Nat.le_refl _⟩, ⟨by repeat (first | (with_reducible first | exact HB.out | apply below_alloc | apply pw_below_drewN | apply below_drew1) | exact HB.out)⟩⟩
              case rest =>
                clear HC84
                try clear c1
                try clear c2
                try clear p2
                try clear c3
                try clear c3b0
                try clear c3b1
                try clear c4
                try clear c5
                try clear c5b0
                try clear c5b1
                try clear c7
                try clear c7b0
                try clear c7b1
                try clear c8
                try clear c9
                try clear c9b0
                try clear c9b1
                try clear c11
                try clear c11b0
                try clear c11b1
                try clear c12
                try clear c13
                try clear c13b0
                try clear c13b1
                try clear c15
                try clear c15b0
                try clear c15b1
                try clear c16
                try clear c20
                try clear c27
                try clear c40
                try clear c43
                try clear c43b0
                try clear c43b1
                try clear c45
                try clear c45b0
                try clear c45b1
                try clear c47
                try clear c47b0
                try clear c47b1
                try clear c49
                try clear c49b0
                try clear c49b1
                try clear c51
                try clear c51b0
                try clear c51b1
                try clear c53
                try clear c53b0
                try clear c53b1
                try clear c83
                try clear c86
                try clear c86b0
                try clear c86b1
                try clear c88
                try clear c88b0
                try clear c88b1
                try clear c90
                try clear c90b0
                try clear c90b1
                try clear c92
                try clear c92b0
                try clear c92b1
                try clear c94
                try clear c94b0
                try clear c94b1
                try clear c96
                try clear c96b0
                try clear c96b1
                try clear p2
                obtain ⟨kq, x82_83, rfl, HA, HJ83, HB⟩ := hcut
                cases kq with
                | zero => exact absurd HA.out (by simp [hindcastlaw01_FixedKnown.j2])
                | succ kj83 =>
                  have H := HA.out
                  clear HA
                  simp only [hindcastlaw01_FixedKnown.j2] at H
                  by_cases c126 : x82_83 = true
                  · subst c126
                    have H1 : (some false) = some r := by rw [if_pos rfl] at H; exact H
                    clear H
                    have H := H1
                    clear H1
                    obtain rfl := Option.some.inj H
                    go_wp2
                    go_ret
                    exact ⟨by first | rfl | (simp [errW_none, errW_some] <;> rfl) | (simp [*, errW_none, errW_some] <;> rfl), by repeat (first | (with_reducible first | exact HB.out | apply below_alloc | apply pw_below_drewN | apply below_drew1) | exact HB.out)⟩
                  · replace c126 := Bool.eq_false_iff.mpr c126
                    subst c126
                    have H1 : ((fixed_Clamp.f 5 1 3).bind fun t141 => (if t141 = 3 then ((fixed_Clamp.f 0 1 3).bind fun t142 => (if t142 = 1 then ((fixed_Clamp.f 2 9 3).bind fun t143 => (if t143 = 9 then ((fixed_Trunc.f (-7) 2).bind fun t144 => (if t144 = (-3) then ((fixed_Trunc.f 7 0).bind fun t145 => (if t145 = 0 then ((fixed_Trunc.f (-2147483648) (-1)).bind fun t146 => (if t146 = 2147483647 then ((fixed_Root.f kj83 1).bind fun t147 => (if t147 = 16 then ((fixed_Root.f kj83 (-1)).bind fun t148 => (if t148 = 0 then ((fixed_Root.f kj83 0).bind fun t149 => (if t149 = 0 then ((fixed_Root.f kj83 2147483647).bind fun t150 => (if t150 = 741455 then ((hindcastlaw01_awake.f kj83).bind fun t151 => (some t151)) else (some false))) else (some false))) else (some false))) else (some false))) else (some false))) else (some false))) else (some false))) else (some false))) else (some false))) else (some false))) = some r := by rw [if_neg (show ¬ (false = true) by decide)] at H; exact H
                    clear H
                    have H := H1
                    clear H1
                    replace H := Option.bind_eq_some_iff.mp H
                    obtain ⟨t141, A1270, H⟩ := H
                    replace H : (if t141 = 3 then ((fixed_Clamp.f 0 1 3).bind fun t142 => (if t142 = 1 then ((fixed_Clamp.f 2 9 3).bind fun t143 => (if t143 = 9 then ((fixed_Trunc.f (-7) 2).bind fun t144 => (if t144 = (-3) then ((fixed_Trunc.f 7 0).bind fun t145 => (if t145 = 0 then ((fixed_Trunc.f (-2147483648) (-1)).bind fun t146 => (if t146 = 2147483647 then ((fixed_Root.f kj83 1).bind fun t147 => (if t147 = 16 then ((fixed_Root.f kj83 (-1)).bind fun t148 => (if t148 = 0 then ((fixed_Root.f kj83 0).bind fun t149 => (if t149 = 0 then ((fixed_Root.f kj83 2147483647).bind fun t150 => (if t150 = 741455 then ((hindcastlaw01_awake.f kj83).bind fun t151 => (some t151)) else (some false))) else (some false))) else (some false))) else (some false))) else (some false))) else (some false))) else (some false))) else (some false))) else (some false))) else (some false)) = some r := H
                    have A127 := Aside0.mk A1270
                    clear A1270
                    by_cases c128 : t141 = 3
                    · rw [if_pos c128] at H
                      have c128b0 : (t141 == 3) = true := beq_iff_eq.mpr c128
                      have c128b1 : (t141 != 3) = false := bne_eq_false_iff_eq.mpr c128
                      clear c128
                      replace H := Option.bind_eq_some_iff.mp H
                      obtain ⟨t142, A1290, H⟩ := H
                      replace H : (if t142 = 1 then ((fixed_Clamp.f 2 9 3).bind fun t143 => (if t143 = 9 then ((fixed_Trunc.f (-7) 2).bind fun t144 => (if t144 = (-3) then ((fixed_Trunc.f 7 0).bind fun t145 => (if t145 = 0 then ((fixed_Trunc.f (-2147483648) (-1)).bind fun t146 => (if t146 = 2147483647 then ((fixed_Root.f kj83 1).bind fun t147 => (if t147 = 16 then ((fixed_Root.f kj83 (-1)).bind fun t148 => (if t148 = 0 then ((fixed_Root.f kj83 0).bind fun t149 => (if t149 = 0 then ((fixed_Root.f kj83 2147483647).bind fun t150 => (if t150 = 741455 then ((hindcastlaw01_awake.f kj83).bind fun t151 => (some t151)) else (some false))) else (some false))) else (some false))) else (some false))) else (some false))) else (some false))) else (some false))) else (some false))) else (some false)) = some r := H
                      have A129 := Aside0.mk A1290
                      clear A1290
                      by_cases c130 : t142 = 1
                      · rw [if_pos c130] at H
                        have c130b0 : (t142 == 1) = true := beq_iff_eq.mpr c130
                        have c130b1 : (t142 != 1) = false := bne_eq_false_iff_eq.mpr c130
                        clear c130
                        replace H := Option.bind_eq_some_iff.mp H
                        obtain ⟨t143, A1310, H⟩ := H
                        replace H : (if t143 = 9 then ((fixed_Trunc.f (-7) 2).bind fun t144 => (if t144 = (-3) then ((fixed_Trunc.f 7 0).bind fun t145 => (if t145 = 0 then ((fixed_Trunc.f (-2147483648) (-1)).bind fun t146 => (if t146 = 2147483647 then ((fixed_Root.f kj83 1).bind fun t147 => (if t147 = 16 then ((fixed_Root.f kj83 (-1)).bind fun t148 => (if t148 = 0 then ((fixed_Root.f kj83 0).bind fun t149 => (if t149 = 0 then ((fixed_Root.f kj83 2147483647).bind fun t150 => (if t150 = 741455 then ((hindcastlaw01_awake.f kj83).bind fun t151 => (some t151)) else (some false))) else (some false))) else (some false))) else (some false))) else (some false))) else (some false))) else (some false))) else (some false)) = some r := H
                        have A131 := Aside0.mk A1310
                        clear A1310
                        by_cases c132 : t143 = 9
                        · rw [if_pos c132] at H
                          have c132b0 : (t143 == 9) = true := beq_iff_eq.mpr c132
                          have c132b1 : (t143 != 9) = false := bne_eq_false_iff_eq.mpr c132
                          clear c132
                          replace H := Option.bind_eq_some_iff.mp H
                          obtain ⟨t144, A1330, H⟩ := H
                          replace H : (if t144 = (-3) then ((fixed_Trunc.f 7 0).bind fun t145 => (if t145 = 0 then ((fixed_Trunc.f (-2147483648) (-1)).bind fun t146 => (if t146 = 2147483647 then ((fixed_Root.f kj83 1).bind fun t147 => (if t147 = 16 then ((fixed_Root.f kj83 (-1)).bind fun t148 => (if t148 = 0 then ((fixed_Root.f kj83 0).bind fun t149 => (if t149 = 0 then ((fixed_Root.f kj83 2147483647).bind fun t150 => (if t150 = 741455 then ((hindcastlaw01_awake.f kj83).bind fun t151 => (some t151)) else (some false))) else (some false))) else (some false))) else (some false))) else (some false))) else (some false))) else (some false)) = some r := H
                          have A133 := Aside0.mk A1330
                          clear A1330
                          by_cases c134 : t144 = (-3)
                          · rw [if_pos c134] at H
                            have c134b0 : (t144 == (-3)) = true := beq_iff_eq.mpr c134
                            have c134b1 : (t144 != (-3)) = false := bne_eq_false_iff_eq.mpr c134
                            clear c134
                            replace H := Option.bind_eq_some_iff.mp H
                            obtain ⟨t145, A1350, H⟩ := H
                            replace H : (if t145 = 0 then ((fixed_Trunc.f (-2147483648) (-1)).bind fun t146 => (if t146 = 2147483647 then ((fixed_Root.f kj83 1).bind fun t147 => (if t147 = 16 then ((fixed_Root.f kj83 (-1)).bind fun t148 => (if t148 = 0 then ((fixed_Root.f kj83 0).bind fun t149 => (if t149 = 0 then ((fixed_Root.f kj83 2147483647).bind fun t150 => (if t150 = 741455 then ((hindcastlaw01_awake.f kj83).bind fun t151 => (some t151)) else (some false))) else (some false))) else (some false))) else (some false))) else (some false))) else (some false)) = some r := H
                            have A135 := Aside0.mk A1350
                            clear A1350
                            by_cases c136 : t145 = 0
                            · rw [if_pos c136] at H
                              have c136b0 : (t145 == 0) = true := beq_iff_eq.mpr c136
                              have c136b1 : (t145 != 0) = false := bne_eq_false_iff_eq.mpr c136
                              clear c136
                              replace H := Option.bind_eq_some_iff.mp H
                              obtain ⟨t146, A1370, H⟩ := H
                              replace H : (if t146 = 2147483647 then ((fixed_Root.f kj83 1).bind fun t147 => (if t147 = 16 then ((fixed_Root.f kj83 (-1)).bind fun t148 => (if t148 = 0 then ((fixed_Root.f kj83 0).bind fun t149 => (if t149 = 0 then ((fixed_Root.f kj83 2147483647).bind fun t150 => (if t150 = 741455 then ((hindcastlaw01_awake.f kj83).bind fun t151 => (some t151)) else (some false))) else (some false))) else (some false))) else (some false))) else (some false)) = some r := H
                              have A137 := Aside0.mk A1370
                              clear A1370
                              by_cases c138 : t146 = 2147483647
                              · rw [if_pos c138] at H
                                have c138b0 : (t146 == 2147483647) = true := beq_iff_eq.mpr c138
                                have c138b1 : (t146 != 2147483647) = false := bne_eq_false_iff_eq.mpr c138
                                clear c138
                                replace H := Option.bind_eq_some_iff.mp H
                                obtain ⟨t147, A1390, H⟩ := H
                                replace H : (if t147 = 16 then ((fixed_Root.f kj83 (-1)).bind fun t148 => (if t148 = 0 then ((fixed_Root.f kj83 0).bind fun t149 => (if t149 = 0 then ((fixed_Root.f kj83 2147483647).bind fun t150 => (if t150 = 741455 then ((hindcastlaw01_awake.f kj83).bind fun t151 => (some t151)) else (some false))) else (some false))) else (some false))) else (some false)) = some r := H
                                have A139 := Aside0.mk A1390
                                clear A1390
                                by_cases c140 : t147 = 16
                                · rw [if_pos c140] at H
                                  have c140b0 : (t147 == 16) = true := beq_iff_eq.mpr c140
                                  have c140b1 : (t147 != 16) = false := bne_eq_false_iff_eq.mpr c140
                                  clear c140
                                  replace H := Option.bind_eq_some_iff.mp H
                                  obtain ⟨t148, A1410, H⟩ := H
                                  replace H : (if t148 = 0 then ((fixed_Root.f kj83 0).bind fun t149 => (if t149 = 0 then ((fixed_Root.f kj83 2147483647).bind fun t150 => (if t150 = 741455 then ((hindcastlaw01_awake.f kj83).bind fun t151 => (some t151)) else (some false))) else (some false))) else (some false)) = some r := H
                                  have A141 := Aside0.mk A1410
                                  clear A1410
                                  by_cases c142 : t148 = 0
                                  · rw [if_pos c142] at H
                                    have c142b0 : (t148 == 0) = true := beq_iff_eq.mpr c142
                                    have c142b1 : (t148 != 0) = false := bne_eq_false_iff_eq.mpr c142
                                    clear c142
                                    replace H := Option.bind_eq_some_iff.mp H
                                    obtain ⟨t149, A1430, H⟩ := H
                                    replace H : (if t149 = 0 then ((fixed_Root.f kj83 2147483647).bind fun t150 => (if t150 = 741455 then ((hindcastlaw01_awake.f kj83).bind fun t151 => (some t151)) else (some false))) else (some false)) = some r := H
                                    have A143 := Aside0.mk A1430
                                    clear A1430
                                    by_cases c144 : t149 = 0
                                    · rw [if_pos c144] at H
                                      have c144b0 : (t149 == 0) = true := beq_iff_eq.mpr c144
                                      have c144b1 : (t149 != 0) = false := bne_eq_false_iff_eq.mpr c144
                                      clear c144
                                      replace H := Option.bind_eq_some_iff.mp H
                                      obtain ⟨t150, A1450, H⟩ := H
                                      replace H : (if t150 = 741455 then ((hindcastlaw01_awake.f kj83).bind fun t151 => (some t151)) else (some false)) = some r := H
                                      have A145 := Aside0.mk A1450
                                      clear A1450
                                      by_cases c146 : t150 = 741455
                                      · rw [if_pos c146] at H
                                        have c146b0 : (t150 == 741455) = true := beq_iff_eq.mpr c146
                                        have c146b1 : (t150 != 741455) = false := bne_eq_false_iff_eq.mpr c146
                                        clear c146
                                        replace H := Option.bind_eq_some_iff.mp H
                                        obtain ⟨t151, A1470, H⟩ := H
                                        replace H : (some t151) = some r := H
                                        have A147 := Aside0.mk A1470
                                        clear A1470
                                        obtain rfl := Option.some.inj H
                                        go_wp2_with (first | ((with_reducible refine gate_callee (f := 25) rfl ?_); refine goesL_ (some 83) rfl rfl Try.func25 (by kernel_rfl) rfl #[.int .i32 5, .int .i32 1, .int .i32 3] rfl (by (try simp only [List.map_toArray, List.map_cons, List.map_nil]); first | done | rfl | (simp only [List.length_drop, List.length_take]; rfl)) ?_; (with_reducible refine (fixed_Clamp.calls 5 1 3 t141 _ A127.out).mono ?_); rintro e w148 ⟨rfl, hb⟩; refine ⟨_, rfl, ?_⟩; have n0_ := Aside0.mk (below_step (by repeat (first | (with_reducible first | exact HB.out | apply below_alloc | apply pw_below_drewN | apply below_drew1) | exact HB.out)) hb); clear HB; have HB := n0_; clear n0_; (try clear hb); (try clear hb2); (try clear hk); (try clear hi)) | (go_at_call 25; (with_reducible refine (fixed_Clamp.calls 0 1 3 t142 _ A129.out).mono ?_); rintro e w149 ⟨rfl, hb⟩; have n0_ := Aside0.mk (below_step (by repeat (first | (with_reducible first | exact HB.out | apply below_alloc | apply pw_below_drewN | apply below_drew1) | exact HB.out)) hb); clear HB; have HB := n0_; clear n0_; (try clear hb); (try clear hb2); (try clear hk); (try clear hi)) | (go_at_call 25; (with_reducible refine (fixed_Clamp.calls 2 9 3 t143 _ A131.out).mono ?_); rintro e w150 ⟨rfl, hb⟩; have n0_ := Aside0.mk (below_step (by repeat (first | (with_reducible first | exact HB.out | apply below_alloc | apply pw_below_drewN | apply below_drew1) | exact HB.out)) hb); clear HB; have HB := n0_; clear n0_; (try clear hb); (try clear hb2); (try clear hk); (try clear hi)) | (go_at_call 34; (with_reducible refine (fixed_Trunc.calls (-7) 2 t144 _ A133.out).mono ?_); rintro e w151 ⟨rfl, hb⟩; have n0_ := Aside0.mk (below_step (by repeat (first | (with_reducible first | exact HB.out | apply below_alloc | apply pw_below_drewN | apply below_drew1) | exact HB.out)) hb); clear HB; have HB := n0_; clear n0_; (try clear hb); (try clear hb2); (try clear hk); (try clear hi)) | (go_at_call 34; (with_reducible refine (fixed_Trunc.calls 7 0 t145 _ A135.out).mono ?_); rintro e w152 ⟨rfl, hb⟩; have n0_ := Aside0.mk (below_step (by repeat (first | (with_reducible first | exact HB.out | apply below_alloc | apply pw_below_drewN | apply below_drew1) | exact HB.out)) hb); clear HB; have HB := n0_; clear n0_; (try clear hb); (try clear hb2); (try clear hk); (try clear hi)) | (go_at_call 34; (with_reducible refine (fixed_Trunc.calls (-2147483648) (-1) t146 _ A137.out).mono ?_); rintro e w153 ⟨rfl, hb⟩; have n0_ := Aside0.mk (below_step (by repeat (first | (with_reducible first | exact HB.out | apply below_alloc | apply pw_below_drewN | apply below_drew1) | exact HB.out)) hb); clear HB; have HB := n0_; clear n0_; (try clear hb); (try clear hb2); (try clear hk); (try clear hi)) | (go_at_call 18; (with_reducible refine (fixed_Root.calls kj83 1 t147 _ A139.out).mono ?_); rintro e w' ⟨rfl, ⟨nd, rfl⟩⟩) | (go_at_call 18; (with_reducible refine (fixed_Root.calls kj83 (-1) t148 _ A141.out).mono ?_); rintro e w' ⟨rfl, ⟨nd, rfl⟩⟩) | (go_at_call 18; (with_reducible refine (fixed_Root.calls kj83 0 t149 _ A143.out).mono ?_); rintro e w' ⟨rfl, ⟨nd, rfl⟩⟩) | (go_at_call 18; (with_reducible refine (fixed_Root.calls kj83 2147483647 t150 _ A145.out).mono ?_); rintro e w' ⟨rfl, ⟨nd, rfl⟩⟩) | (go_at_call 15; (with_reducible refine (hindcastlaw01_awake.calls kj83  t151 _ A147.out).mono ?_); rintro e w154 ⟨rfl, hb⟩; have n0_ := Aside0.mk (below_step (by repeat (first | (with_reducible first | exact HB.out | apply below_alloc | apply pw_below_drewN | apply below_drew1) | exact HB.out)) hb); clear HB; have HB := n0_; clear n0_; (try clear hb); (try clear hb2); (try clear hk); (try clear hi)))
                                        go_ret
                                        exact ⟨by first | rfl | (simp [errW_none, errW_some] <;> rfl) | (simp [*, errW_none, errW_some] <;> rfl), by repeat (first | (with_reducible first | exact HB.out | apply below_alloc | apply pw_below_drewN | apply below_drew1) | exact HB.out)⟩
                                      · rw [if_neg c146] at H
                                        have c146b0 : (t150 == 741455) = false := beq_eq_false_iff_ne.mpr c146
                                        have c146b1 : (t150 != 741455) = true := bne_iff_ne.mpr c146
                                        obtain rfl := Option.some.inj H
                                        go_wp2_with (first | ((with_reducible refine gate_callee (f := 25) rfl ?_); refine goesL_ (some 83) rfl rfl Try.func25 (by kernel_rfl) rfl #[.int .i32 5, .int .i32 1, .int .i32 3] rfl (by (try simp only [List.map_toArray, List.map_cons, List.map_nil]); first | done | rfl | (simp only [List.length_drop, List.length_take]; rfl)) ?_; (with_reducible refine (fixed_Clamp.calls 5 1 3 t141 _ A127.out).mono ?_); rintro e w155 ⟨rfl, hb⟩; refine ⟨_, rfl, ?_⟩; have n0_ := Aside0.mk (below_step (by repeat (first | (with_reducible first | exact HB.out | apply below_alloc | apply pw_below_drewN | apply below_drew1) | exact HB.out)) hb); clear HB; have HB := n0_; clear n0_; (try clear hb); (try clear hb2); (try clear hk); (try clear hi)) | (go_at_call 25; (with_reducible refine (fixed_Clamp.calls 0 1 3 t142 _ A129.out).mono ?_); rintro e w156 ⟨rfl, hb⟩; have n0_ := Aside0.mk (below_step (by repeat (first | (with_reducible first | exact HB.out | apply below_alloc | apply pw_below_drewN | apply below_drew1) | exact HB.out)) hb); clear HB; have HB := n0_; clear n0_; (try clear hb); (try clear hb2); (try clear hk); (try clear hi)) | (go_at_call 25; (with_reducible refine (fixed_Clamp.calls 2 9 3 t143 _ A131.out).mono ?_); rintro e w157 ⟨rfl, hb⟩; have n0_ := Aside0.mk (below_step (by repeat (first | (with_reducible first | exact HB.out | apply below_alloc | apply pw_below_drewN | apply below_drew1) | exact HB.out)) hb); clear HB; have HB := n0_; clear n0_; (try clear hb); (try clear hb2); (try clear hk); (try clear hi)) | (go_at_call 34; (with_reducible refine (fixed_Trunc.calls (-7) 2 t144 _ A133.out).mono ?_); rintro e w158 ⟨rfl, hb⟩; have n0_ := Aside0.mk (below_step (by repeat (first | (with_reducible first | exact HB.out | apply below_alloc | apply pw_below_drewN | apply below_drew1) | exact HB.out)) hb); clear HB; have HB := n0_; clear n0_; (try clear hb); (try clear hb2); (try clear hk); (try clear hi)) | (go_at_call 34; (with_reducible refine (fixed_Trunc.calls 7 0 t145 _ A135.out).mono ?_); rintro e w159 ⟨rfl, hb⟩; have n0_ := Aside0.mk (below_step (by repeat (first | (with_reducible first | exact HB.out | apply below_alloc | apply pw_below_drewN | apply below_drew1) | exact HB.out)) hb); clear HB; have HB := n0_; clear n0_; (try clear hb); (try clear hb2); (try clear hk); (try clear hi)) | (go_at_call 34; (with_reducible refine (fixed_Trunc.calls (-2147483648) (-1) t146 _ A137.out).mono ?_); rintro e w160 ⟨rfl, hb⟩; have n0_ := Aside0.mk (below_step (by repeat (first | (with_reducible first | exact HB.out | apply below_alloc | apply pw_below_drewN | apply below_drew1) | exact HB.out)) hb); clear HB; have HB := n0_; clear n0_; (try clear hb); (try clear hb2); (try clear hk); (try clear hi)) | (go_at_call 18; (with_reducible refine (fixed_Root.calls kj83 1 t147 _ A139.out).mono ?_); rintro e w' ⟨rfl, ⟨nd, rfl⟩⟩) | (go_at_call 18; (with_reducible refine (fixed_Root.calls kj83 (-1) t148 _ A141.out).mono ?_); rintro e w' ⟨rfl, ⟨nd, rfl⟩⟩) | (go_at_call 18; (with_reducible refine (fixed_Root.calls kj83 0 t149 _ A143.out).mono ?_); rintro e w' ⟨rfl, ⟨nd, rfl⟩⟩) | (go_at_call 18; (with_reducible refine (fixed_Root.calls kj83 2147483647 t150 _ A145.out).mono ?_); rintro e w' ⟨rfl, ⟨nd, rfl⟩⟩))
                                        go_ret
                                        exact ⟨by first | rfl | (simp [errW_none, errW_some] <;> rfl) | (simp [*, errW_none, errW_some] <;> rfl), by repeat (first | (with_reducible first | exact HB.out | apply below_alloc | apply pw_below_drewN | apply below_drew1) | exact HB.out)⟩
                                    · rw [if_neg c144] at H
                                      have c144b0 : (t149 == 0) = false := beq_eq_false_iff_ne.mpr c144
                                      have c144b1 : (t149 != 0) = true := bne_iff_ne.mpr c144
                                      obtain rfl := Option.some.inj H
                                      go_wp2_with (first | ((with_reducible refine gate_callee (f := 25) rfl ?_); refine goesL_ (some 83) rfl rfl Try.func25 (by kernel_rfl) rfl #[.int .i32 5, .int .i32 1, .int .i32 3] rfl (by (try simp only [List.map_toArray, List.map_cons, List.map_nil]); first | done | rfl | (simp only [List.length_drop, List.length_take]; rfl)) ?_; (with_reducible refine (fixed_Clamp.calls 5 1 3 t141 _ A127.out).mono ?_); rintro e w161 ⟨rfl, hb⟩; refine ⟨_, rfl, ?_⟩; have n0_ := Aside0.mk (below_step (by repeat (first | (with_reducible first | exact HB.out | apply below_alloc | apply pw_below_drewN | apply below_drew1) | exact HB.out)) hb); clear HB; have HB := n0_; clear n0_; (try clear hb); (try clear hb2); (try clear hk); (try clear hi)) | (go_at_call 25; (with_reducible refine (fixed_Clamp.calls 0 1 3 t142 _ A129.out).mono ?_); rintro e w162 ⟨rfl, hb⟩; have n0_ := Aside0.mk (below_step (by repeat (first | (with_reducible first | exact HB.out | apply below_alloc | apply pw_below_drewN | apply below_drew1) | exact HB.out)) hb); clear HB; have HB := n0_; clear n0_; (try clear hb); (try clear hb2); (try clear hk); (try clear hi)) | (go_at_call 25; (with_reducible refine (fixed_Clamp.calls 2 9 3 t143 _ A131.out).mono ?_); rintro e w163 ⟨rfl, hb⟩; have n0_ := Aside0.mk (below_step (by repeat (first | (with_reducible first | exact HB.out | apply below_alloc | apply pw_below_drewN | apply below_drew1) | exact HB.out)) hb); clear HB; have HB := n0_; clear n0_; (try clear hb); (try clear hb2); (try clear hk); (try clear hi)) | (go_at_call 34; (with_reducible refine (fixed_Trunc.calls (-7) 2 t144 _ A133.out).mono ?_); rintro e w164 ⟨rfl, hb⟩; have n0_ := Aside0.mk (below_step (by repeat (first | (with_reducible first | exact HB.out | apply below_alloc | apply pw_below_drewN | apply below_drew1) | exact HB.out)) hb); clear HB; have HB := n0_; clear n0_; (try clear hb); (try clear hb2); (try clear hk); (try clear hi)) | (go_at_call 34; (with_reducible refine (fixed_Trunc.calls 7 0 t145 _ A135.out).mono ?_); rintro e w165 ⟨rfl, hb⟩; have n0_ := Aside0.mk (below_step (by repeat (first | (with_reducible first | exact HB.out | apply below_alloc | apply pw_below_drewN | apply below_drew1) | exact HB.out)) hb); clear HB; have HB := n0_; clear n0_; (try clear hb); (try clear hb2); (try clear hk); (try clear hi)) | (go_at_call 34; (with_reducible refine (fixed_Trunc.calls (-2147483648) (-1) t146 _ A137.out).mono ?_); rintro e w166 ⟨rfl, hb⟩; have n0_ := Aside0.mk (below_step (by repeat (first | (with_reducible first | exact HB.out | apply below_alloc | apply pw_below_drewN | apply below_drew1) | exact HB.out)) hb); clear HB; have HB := n0_; clear n0_; (try clear hb); (try clear hb2); (try clear hk); (try clear hi)) | (go_at_call 18; (with_reducible refine (fixed_Root.calls kj83 1 t147 _ A139.out).mono ?_); rintro e w' ⟨rfl, ⟨nd, rfl⟩⟩) | (go_at_call 18; (with_reducible refine (fixed_Root.calls kj83 (-1) t148 _ A141.out).mono ?_); rintro e w' ⟨rfl, ⟨nd, rfl⟩⟩) | (go_at_call 18; (with_reducible refine (fixed_Root.calls kj83 0 t149 _ A143.out).mono ?_); rintro e w' ⟨rfl, ⟨nd, rfl⟩⟩))
                                      go_ret
                                      exact ⟨by first | rfl | (simp [errW_none, errW_some] <;> rfl) | (simp [*, errW_none, errW_some] <;> rfl), by repeat (first | (with_reducible first | exact HB.out | apply below_alloc | apply pw_below_drewN | apply below_drew1) | exact HB.out)⟩
                                  · rw [if_neg c142] at H
                                    have c142b0 : (t148 == 0) = false := beq_eq_false_iff_ne.mpr c142
                                    have c142b1 : (t148 != 0) = true := bne_iff_ne.mpr c142
                                    obtain rfl := Option.some.inj H
                                    go_wp2_with (first | ((with_reducible refine gate_callee (f := 25) rfl ?_); refine goesL_ (some 83) rfl rfl Try.func25 (by kernel_rfl) rfl #[.int .i32 5, .int .i32 1, .int .i32 3] rfl (by (try simp only [List.map_toArray, List.map_cons, List.map_nil]); first | done | rfl | (simp only [List.length_drop, List.length_take]; rfl)) ?_; (with_reducible refine (fixed_Clamp.calls 5 1 3 t141 _ A127.out).mono ?_); rintro e w167 ⟨rfl, hb⟩; refine ⟨_, rfl, ?_⟩; have n0_ := Aside0.mk (below_step (by repeat (first | (with_reducible first | exact HB.out | apply below_alloc | apply pw_below_drewN | apply below_drew1) | exact HB.out)) hb); clear HB; have HB := n0_; clear n0_; (try clear hb); (try clear hb2); (try clear hk); (try clear hi)) | (go_at_call 25; (with_reducible refine (fixed_Clamp.calls 0 1 3 t142 _ A129.out).mono ?_); rintro e w168 ⟨rfl, hb⟩; have n0_ := Aside0.mk (below_step (by repeat (first | (with_reducible first | exact HB.out | apply below_alloc | apply pw_below_drewN | apply below_drew1) | exact HB.out)) hb); clear HB; have HB := n0_; clear n0_; (try clear hb); (try clear hb2); (try clear hk); (try clear hi)) | (go_at_call 25; (with_reducible refine (fixed_Clamp.calls 2 9 3 t143 _ A131.out).mono ?_); rintro e w169 ⟨rfl, hb⟩; have n0_ := Aside0.mk (below_step (by repeat (first | (with_reducible first | exact HB.out | apply below_alloc | apply pw_below_drewN | apply below_drew1) | exact HB.out)) hb); clear HB; have HB := n0_; clear n0_; (try clear hb); (try clear hb2); (try clear hk); (try clear hi)) | (go_at_call 34; (with_reducible refine (fixed_Trunc.calls (-7) 2 t144 _ A133.out).mono ?_); rintro e w170 ⟨rfl, hb⟩; have n0_ := Aside0.mk (below_step (by repeat (first | (with_reducible first | exact HB.out | apply below_alloc | apply pw_below_drewN | apply below_drew1) | exact HB.out)) hb); clear HB; have HB := n0_; clear n0_; (try clear hb); (try clear hb2); (try clear hk); (try clear hi)) | (go_at_call 34; (with_reducible refine (fixed_Trunc.calls 7 0 t145 _ A135.out).mono ?_); rintro e w171 ⟨rfl, hb⟩; have n0_ := Aside0.mk (below_step (by repeat (first | (with_reducible first | exact HB.out | apply below_alloc | apply pw_below_drewN | apply below_drew1) | exact HB.out)) hb); clear HB; have HB := n0_; clear n0_; (try clear hb); (try clear hb2); (try clear hk); (try clear hi)) | (go_at_call 34; (with_reducible refine (fixed_Trunc.calls (-2147483648) (-1) t146 _ A137.out).mono ?_); rintro e w172 ⟨rfl, hb⟩; have n0_ := Aside0.mk (below_step (by repeat (first | (with_reducible first | exact HB.out | apply below_alloc | apply pw_below_drewN | apply below_drew1) | exact HB.out)) hb); clear HB; have HB := n0_; clear n0_; (try clear hb); (try clear hb2); (try clear hk); (try clear hi)) | (go_at_call 18; (with_reducible refine (fixed_Root.calls kj83 1 t147 _ A139.out).mono ?_); rintro e w' ⟨rfl, ⟨nd, rfl⟩⟩) | (go_at_call 18; (with_reducible refine (fixed_Root.calls kj83 (-1) t148 _ A141.out).mono ?_); rintro e w' ⟨rfl, ⟨nd, rfl⟩⟩))
                                    go_ret
                                    exact ⟨by first | rfl | (simp [errW_none, errW_some] <;> rfl) | (simp [*, errW_none, errW_some] <;> rfl), by repeat (first | (with_reducible first | exact HB.out | apply below_alloc | apply pw_below_drewN | apply below_drew1) | exact HB.out)⟩
                                · rw [if_neg c140] at H
                                  have c140b0 : (t147 == 16) = false := beq_eq_false_iff_ne.mpr c140
                                  have c140b1 : (t147 != 16) = true := bne_iff_ne.mpr c140
                                  obtain rfl := Option.some.inj H
                                  go_wp2_with (first | ((with_reducible refine gate_callee (f := 25) rfl ?_); refine goesL_ (some 83) rfl rfl Try.func25 (by kernel_rfl) rfl #[.int .i32 5, .int .i32 1, .int .i32 3] rfl (by (try simp only [List.map_toArray, List.map_cons, List.map_nil]); first | done | rfl | (simp only [List.length_drop, List.length_take]; rfl)) ?_; (with_reducible refine (fixed_Clamp.calls 5 1 3 t141 _ A127.out).mono ?_); rintro e w173 ⟨rfl, hb⟩; refine ⟨_, rfl, ?_⟩; have n0_ := Aside0.mk (below_step (by repeat (first | (with_reducible first | exact HB.out | apply below_alloc | apply pw_below_drewN | apply below_drew1) | exact HB.out)) hb); clear HB; have HB := n0_; clear n0_; (try clear hb); (try clear hb2); (try clear hk); (try clear hi)) | (go_at_call 25; (with_reducible refine (fixed_Clamp.calls 0 1 3 t142 _ A129.out).mono ?_); rintro e w174 ⟨rfl, hb⟩; have n0_ := Aside0.mk (below_step (by repeat (first | (with_reducible first | exact HB.out | apply below_alloc | apply pw_below_drewN | apply below_drew1) | exact HB.out)) hb); clear HB; have HB := n0_; clear n0_; (try clear hb); (try clear hb2); (try clear hk); (try clear hi)) | (go_at_call 25; (with_reducible refine (fixed_Clamp.calls 2 9 3 t143 _ A131.out).mono ?_); rintro e w175 ⟨rfl, hb⟩; have n0_ := Aside0.mk (below_step (by repeat (first | (with_reducible first | exact HB.out | apply below_alloc | apply pw_below_drewN | apply below_drew1) | exact HB.out)) hb); clear HB; have HB := n0_; clear n0_; (try clear hb); (try clear hb2); (try clear hk); (try clear hi)) | (go_at_call 34; (with_reducible refine (fixed_Trunc.calls (-7) 2 t144 _ A133.out).mono ?_); rintro e w176 ⟨rfl, hb⟩; have n0_ := Aside0.mk (below_step (by repeat (first | (with_reducible first | exact HB.out | apply below_alloc | apply pw_below_drewN | apply below_drew1) | exact HB.out)) hb); clear HB; have HB := n0_; clear n0_; (try clear hb); (try clear hb2); (try clear hk); (try clear hi)) | (go_at_call 34; (with_reducible refine (fixed_Trunc.calls 7 0 t145 _ A135.out).mono ?_); rintro e w177 ⟨rfl, hb⟩; have n0_ := Aside0.mk (below_step (by repeat (first | (with_reducible first | exact HB.out | apply below_alloc | apply pw_below_drewN | apply below_drew1) | exact HB.out)) hb); clear HB; have HB := n0_; clear n0_; (try clear hb); (try clear hb2); (try clear hk); (try clear hi)) | (go_at_call 34; (with_reducible refine (fixed_Trunc.calls (-2147483648) (-1) t146 _ A137.out).mono ?_); rintro e w178 ⟨rfl, hb⟩; have n0_ := Aside0.mk (below_step (by repeat (first | (with_reducible first | exact HB.out | apply below_alloc | apply pw_below_drewN | apply below_drew1) | exact HB.out)) hb); clear HB; have HB := n0_; clear n0_; (try clear hb); (try clear hb2); (try clear hk); (try clear hi)) | (go_at_call 18; (with_reducible refine (fixed_Root.calls kj83 1 t147 _ A139.out).mono ?_); rintro e w' ⟨rfl, ⟨nd, rfl⟩⟩))
                                  go_ret
                                  exact ⟨by first | rfl | (simp [errW_none, errW_some] <;> rfl) | (simp [*, errW_none, errW_some] <;> rfl), by repeat (first | (with_reducible first | exact HB.out | apply below_alloc | apply pw_below_drewN | apply below_drew1) | exact HB.out)⟩
                              · rw [if_neg c138] at H
                                have c138b0 : (t146 == 2147483647) = false := beq_eq_false_iff_ne.mpr c138
                                have c138b1 : (t146 != 2147483647) = true := bne_iff_ne.mpr c138
                                obtain rfl := Option.some.inj H
                                go_wp2_with (first | ((with_reducible refine gate_callee (f := 25) rfl ?_); refine goesL_ (some 83) rfl rfl Try.func25 (by kernel_rfl) rfl #[.int .i32 5, .int .i32 1, .int .i32 3] rfl (by (try simp only [List.map_toArray, List.map_cons, List.map_nil]); first | done | rfl | (simp only [List.length_drop, List.length_take]; rfl)) ?_; (with_reducible refine (fixed_Clamp.calls 5 1 3 t141 _ A127.out).mono ?_); rintro e w179 ⟨rfl, hb⟩; refine ⟨_, rfl, ?_⟩; have n0_ := Aside0.mk (below_step (by repeat (first | (with_reducible first | exact HB.out | apply below_alloc | apply pw_below_drewN | apply below_drew1) | exact HB.out)) hb); clear HB; have HB := n0_; clear n0_; (try clear hb); (try clear hb2); (try clear hk); (try clear hi)) | (go_at_call 25; (with_reducible refine (fixed_Clamp.calls 0 1 3 t142 _ A129.out).mono ?_); rintro e w180 ⟨rfl, hb⟩; have n0_ := Aside0.mk (below_step (by repeat (first | (with_reducible first | exact HB.out | apply below_alloc | apply pw_below_drewN | apply below_drew1) | exact HB.out)) hb); clear HB; have HB := n0_; clear n0_; (try clear hb); (try clear hb2); (try clear hk); (try clear hi)) | (go_at_call 25; (with_reducible refine (fixed_Clamp.calls 2 9 3 t143 _ A131.out).mono ?_); rintro e w181 ⟨rfl, hb⟩; have n0_ := Aside0.mk (below_step (by repeat (first | (with_reducible first | exact HB.out | apply below_alloc | apply pw_below_drewN | apply below_drew1) | exact HB.out)) hb); clear HB; have HB := n0_; clear n0_; (try clear hb); (try clear hb2); (try clear hk); (try clear hi)) | (go_at_call 34; (with_reducible refine (fixed_Trunc.calls (-7) 2 t144 _ A133.out).mono ?_); rintro e w182 ⟨rfl, hb⟩; have n0_ := Aside0.mk (below_step (by repeat (first | (with_reducible first | exact HB.out | apply below_alloc | apply pw_below_drewN | apply below_drew1) | exact HB.out)) hb); clear HB; have HB := n0_; clear n0_; (try clear hb); (try clear hb2); (try clear hk); (try clear hi)) | (go_at_call 34; (with_reducible refine (fixed_Trunc.calls 7 0 t145 _ A135.out).mono ?_); rintro e w183 ⟨rfl, hb⟩; have n0_ := Aside0.mk (below_step (by repeat (first | (with_reducible first | exact HB.out | apply below_alloc | apply pw_below_drewN | apply below_drew1) | exact HB.out)) hb); clear HB; have HB := n0_; clear n0_; (try clear hb); (try clear hb2); (try clear hk); (try clear hi)) | (go_at_call 34; (with_reducible refine (fixed_Trunc.calls (-2147483648) (-1) t146 _ A137.out).mono ?_); rintro e w184 ⟨rfl, hb⟩; have n0_ := Aside0.mk (below_step (by repeat (first | (with_reducible first | exact HB.out | apply below_alloc | apply pw_below_drewN | apply below_drew1) | exact HB.out)) hb); clear HB; have HB := n0_; clear n0_; (try clear hb); (try clear hb2); (try clear hk); (try clear hi)))
                                go_ret
                                exact ⟨by first | rfl | (simp [errW_none, errW_some] <;> rfl) | (simp [*, errW_none, errW_some] <;> rfl), by repeat (first | (with_reducible first | exact HB.out | apply below_alloc | apply pw_below_drewN | apply below_drew1) | exact HB.out)⟩
                            · rw [if_neg c136] at H
                              have c136b0 : (t145 == 0) = false := beq_eq_false_iff_ne.mpr c136
                              have c136b1 : (t145 != 0) = true := bne_iff_ne.mpr c136
                              obtain rfl := Option.some.inj H
                              go_wp2_with (first | ((with_reducible refine gate_callee (f := 25) rfl ?_); refine goesL_ (some 83) rfl rfl Try.func25 (by kernel_rfl) rfl #[.int .i32 5, .int .i32 1, .int .i32 3] rfl (by (try simp only [List.map_toArray, List.map_cons, List.map_nil]); first | done | rfl | (simp only [List.length_drop, List.length_take]; rfl)) ?_; (with_reducible refine (fixed_Clamp.calls 5 1 3 t141 _ A127.out).mono ?_); rintro e w185 ⟨rfl, hb⟩; refine ⟨_, rfl, ?_⟩; have n0_ := Aside0.mk (below_step (by repeat (first | (with_reducible first | exact HB.out | apply below_alloc | apply pw_below_drewN | apply below_drew1) | exact HB.out)) hb); clear HB; have HB := n0_; clear n0_; (try clear hb); (try clear hb2); (try clear hk); (try clear hi)) | (go_at_call 25; (with_reducible refine (fixed_Clamp.calls 0 1 3 t142 _ A129.out).mono ?_); rintro e w186 ⟨rfl, hb⟩; have n0_ := Aside0.mk (below_step (by repeat (first | (with_reducible first | exact HB.out | apply below_alloc | apply pw_below_drewN | apply below_drew1) | exact HB.out)) hb); clear HB; have HB := n0_; clear n0_; (try clear hb); (try clear hb2); (try clear hk); (try clear hi)) | (go_at_call 25; (with_reducible refine (fixed_Clamp.calls 2 9 3 t143 _ A131.out).mono ?_); rintro e w187 ⟨rfl, hb⟩; have n0_ := Aside0.mk (below_step (by repeat (first | (with_reducible first | exact HB.out | apply below_alloc | apply pw_below_drewN | apply below_drew1) | exact HB.out)) hb); clear HB; have HB := n0_; clear n0_; (try clear hb); (try clear hb2); (try clear hk); (try clear hi)) | (go_at_call 34; (with_reducible refine (fixed_Trunc.calls (-7) 2 t144 _ A133.out).mono ?_); rintro e w188 ⟨rfl, hb⟩; have n0_ := Aside0.mk (below_step (by repeat (first | (with_reducible first | exact HB.out | apply below_alloc | apply pw_below_drewN | apply below_drew1) | exact HB.out)) hb); clear HB; have HB := n0_; clear n0_; (try clear hb); (try clear hb2); (try clear hk); (try clear hi)) | (go_at_call 34; (with_reducible refine (fixed_Trunc.calls 7 0 t145 _ A135.out).mono ?_); rintro e w189 ⟨rfl, hb⟩; have n0_ := Aside0.mk (below_step (by repeat (first | (with_reducible first | exact HB.out | apply below_alloc | apply pw_below_drewN | apply below_drew1) | exact HB.out)) hb); clear HB; have HB := n0_; clear n0_; (try clear hb); (try clear hb2); (try clear hk); (try clear hi)))
                              go_ret
                              exact ⟨by first | rfl | (simp [errW_none, errW_some] <;> rfl) | (simp [*, errW_none, errW_some] <;> rfl), by repeat (first | (with_reducible first | exact HB.out | apply below_alloc | apply pw_below_drewN | apply below_drew1) | exact HB.out)⟩
                          · rw [if_neg c134] at H
                            have c134b0 : (t144 == (-3)) = false := beq_eq_false_iff_ne.mpr c134
                            have c134b1 : (t144 != (-3)) = true := bne_iff_ne.mpr c134
                            obtain rfl := Option.some.inj H
                            go_wp2_with (first | ((with_reducible refine gate_callee (f := 25) rfl ?_); refine goesL_ (some 83) rfl rfl Try.func25 (by kernel_rfl) rfl #[.int .i32 5, .int .i32 1, .int .i32 3] rfl (by (try simp only [List.map_toArray, List.map_cons, List.map_nil]); first | done | rfl | (simp only [List.length_drop, List.length_take]; rfl)) ?_; (with_reducible refine (fixed_Clamp.calls 5 1 3 t141 _ A127.out).mono ?_); rintro e w190 ⟨rfl, hb⟩; refine ⟨_, rfl, ?_⟩; have n0_ := Aside0.mk (below_step (by repeat (first | (with_reducible first | exact HB.out | apply below_alloc | apply pw_below_drewN | apply below_drew1) | exact HB.out)) hb); clear HB; have HB := n0_; clear n0_; (try clear hb); (try clear hb2); (try clear hk); (try clear hi)) | (go_at_call 25; (with_reducible refine (fixed_Clamp.calls 0 1 3 t142 _ A129.out).mono ?_); rintro e w191 ⟨rfl, hb⟩; have n0_ := Aside0.mk (below_step (by repeat (first | (with_reducible first | exact HB.out | apply below_alloc | apply pw_below_drewN | apply below_drew1) | exact HB.out)) hb); clear HB; have HB := n0_; clear n0_; (try clear hb); (try clear hb2); (try clear hk); (try clear hi)) | (go_at_call 25; (with_reducible refine (fixed_Clamp.calls 2 9 3 t143 _ A131.out).mono ?_); rintro e w192 ⟨rfl, hb⟩; have n0_ := Aside0.mk (below_step (by repeat (first | (with_reducible first | exact HB.out | apply below_alloc | apply pw_below_drewN | apply below_drew1) | exact HB.out)) hb); clear HB; have HB := n0_; clear n0_; (try clear hb); (try clear hb2); (try clear hk); (try clear hi)) | (go_at_call 34; (with_reducible refine (fixed_Trunc.calls (-7) 2 t144 _ A133.out).mono ?_); rintro e w193 ⟨rfl, hb⟩; have n0_ := Aside0.mk (below_step (by repeat (first | (with_reducible first | exact HB.out | apply below_alloc | apply pw_below_drewN | apply below_drew1) | exact HB.out)) hb); clear HB; have HB := n0_; clear n0_; (try clear hb); (try clear hb2); (try clear hk); (try clear hi)))
                            go_ret
                            exact ⟨by first | rfl | (simp [errW_none, errW_some] <;> rfl) | (simp [*, errW_none, errW_some] <;> rfl), by repeat (first | (with_reducible first | exact HB.out | apply below_alloc | apply pw_below_drewN | apply below_drew1) | exact HB.out)⟩
                        · rw [if_neg c132] at H
                          have c132b0 : (t143 == 9) = false := beq_eq_false_iff_ne.mpr c132
                          have c132b1 : (t143 != 9) = true := bne_iff_ne.mpr c132
                          obtain rfl := Option.some.inj H
                          go_wp2_with (first | ((with_reducible refine gate_callee (f := 25) rfl ?_); refine goesL_ (some 83) rfl rfl Try.func25 (by kernel_rfl) rfl #[.int .i32 5, .int .i32 1, .int .i32 3] rfl (by (try simp only [List.map_toArray, List.map_cons, List.map_nil]); first | done | rfl | (simp only [List.length_drop, List.length_take]; rfl)) ?_; (with_reducible refine (fixed_Clamp.calls 5 1 3 t141 _ A127.out).mono ?_); rintro e w194 ⟨rfl, hb⟩; refine ⟨_, rfl, ?_⟩; have n0_ := Aside0.mk (below_step (by repeat (first | (with_reducible first | exact HB.out | apply below_alloc | apply pw_below_drewN | apply below_drew1) | exact HB.out)) hb); clear HB; have HB := n0_; clear n0_; (try clear hb); (try clear hb2); (try clear hk); (try clear hi)) | (go_at_call 25; (with_reducible refine (fixed_Clamp.calls 0 1 3 t142 _ A129.out).mono ?_); rintro e w195 ⟨rfl, hb⟩; have n0_ := Aside0.mk (below_step (by repeat (first | (with_reducible first | exact HB.out | apply below_alloc | apply pw_below_drewN | apply below_drew1) | exact HB.out)) hb); clear HB; have HB := n0_; clear n0_; (try clear hb); (try clear hb2); (try clear hk); (try clear hi)) | (go_at_call 25; (with_reducible refine (fixed_Clamp.calls 2 9 3 t143 _ A131.out).mono ?_); rintro e w196 ⟨rfl, hb⟩; have n0_ := Aside0.mk (below_step (by repeat (first | (with_reducible first | exact HB.out | apply below_alloc | apply pw_below_drewN | apply below_drew1) | exact HB.out)) hb); clear HB; have HB := n0_; clear n0_; (try clear hb); (try clear hb2); (try clear hk); (try clear hi)))
                          go_ret
                          exact ⟨by first | rfl | (simp [errW_none, errW_some] <;> rfl) | (simp [*, errW_none, errW_some] <;> rfl), by repeat (first | (with_reducible first | exact HB.out | apply below_alloc | apply pw_below_drewN | apply below_drew1) | exact HB.out)⟩
                      · rw [if_neg c130] at H
                        have c130b0 : (t142 == 1) = false := beq_eq_false_iff_ne.mpr c130
                        have c130b1 : (t142 != 1) = true := bne_iff_ne.mpr c130
                        obtain rfl := Option.some.inj H
                        go_wp2_with (first | ((with_reducible refine gate_callee (f := 25) rfl ?_); refine goesL_ (some 83) rfl rfl Try.func25 (by kernel_rfl) rfl #[.int .i32 5, .int .i32 1, .int .i32 3] rfl (by (try simp only [List.map_toArray, List.map_cons, List.map_nil]); first | done | rfl | (simp only [List.length_drop, List.length_take]; rfl)) ?_; (with_reducible refine (fixed_Clamp.calls 5 1 3 t141 _ A127.out).mono ?_); rintro e w197 ⟨rfl, hb⟩; refine ⟨_, rfl, ?_⟩; have n0_ := Aside0.mk (below_step (by repeat (first | (with_reducible first | exact HB.out | apply below_alloc | apply pw_below_drewN | apply below_drew1) | exact HB.out)) hb); clear HB; have HB := n0_; clear n0_; (try clear hb); (try clear hb2); (try clear hk); (try clear hi)) | (go_at_call 25; (with_reducible refine (fixed_Clamp.calls 0 1 3 t142 _ A129.out).mono ?_); rintro e w198 ⟨rfl, hb⟩; have n0_ := Aside0.mk (below_step (by repeat (first | (with_reducible first | exact HB.out | apply below_alloc | apply pw_below_drewN | apply below_drew1) | exact HB.out)) hb); clear HB; have HB := n0_; clear n0_; (try clear hb); (try clear hb2); (try clear hk); (try clear hi)))
                        go_ret
                        exact ⟨by first | rfl | (simp [errW_none, errW_some] <;> rfl) | (simp [*, errW_none, errW_some] <;> rfl), by repeat (first | (with_reducible first | exact HB.out | apply below_alloc | apply pw_below_drewN | apply below_drew1) | exact HB.out)⟩
                    · rw [if_neg c128] at H
                      have c128b0 : (t141 == 3) = false := beq_eq_false_iff_ne.mpr c128
                      have c128b1 : (t141 != 3) = true := bne_iff_ne.mpr c128
                      obtain rfl := Option.some.inj H
                      go_wp2_with (first | ((with_reducible refine gate_callee (f := 25) rfl ?_); refine goesL_ (some 83) rfl rfl Try.func25 (by kernel_rfl) rfl #[.int .i32 5, .int .i32 1, .int .i32 3] rfl (by (try simp only [List.map_toArray, List.map_cons, List.map_nil]); first | done | rfl | (simp only [List.length_drop, List.length_take]; rfl)) ?_; (with_reducible refine (fixed_Clamp.calls 5 1 3 t141 _ A127.out).mono ?_); rintro e w199 ⟨rfl, hb⟩; refine ⟨_, rfl, ?_⟩; have n0_ := Aside0.mk (below_step (by repeat (first | (with_reducible first | exact HB.out | apply below_alloc | apply pw_below_drewN | apply below_drew1) | exact HB.out)) hb); clear HB; have HB := n0_; clear n0_; (try clear hb); (try clear hb2); (try clear hk); (try clear hi)))
                      go_ret
                      exact ⟨by first | rfl | (simp [errW_none, errW_some] <;> rfl) | (simp [*, errW_none, errW_some] <;> rfl), by repeat (first | (with_reducible first | exact HB.out | apply below_alloc | apply pw_below_drewN | apply below_drew1) | exact HB.out)⟩

/-- THE ONE PURE STATEMENT of hindcastlaw01_FixedKnown: yours. -/
def hindcastlaw01_FixedKnown.Pure : Prop := ∃ k, hindcastlaw01_FixedKnown.f k  = some true
theorem hindcastlaw01_FixedKnown.walk (P : hindcastlaw01_FixedKnown.Pure)  (w : World)  :
    Calls Try.prog 12 #[] w fun e w' => e = .returned (.bool true) ∧ Below w.heap.size w w' := by
  obtain ⟨k, h⟩ := P  
  refine (hindcastlaw01_FixedKnown.calls k  true w h).mono ?_
  rintro e w' ⟨rfl, hd⟩
  exact ⟨rfl, hd⟩

end Go.Proofs.Ytiflfafniciebaa.PFixedKnown
