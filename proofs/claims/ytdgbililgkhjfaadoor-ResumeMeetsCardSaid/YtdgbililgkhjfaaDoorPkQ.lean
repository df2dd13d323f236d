/- slices.Equal at lists of inputs and of pairs, and Same: walked. Conditions: the lists lie in memory. -/
import Derived.Test.YtdgbililgkhjfaaDoorPkE
import Derived.ChangeKeysEq
import Derived.Laws.StructEq
namespace Go.Proofs.YtdgbililgkhjfaaDoor.Pk
open Go.RowKit Go.Proofs.YtdgbililgkhjfaaDoor.Crc Go.Proofs.YtdgbililgkhjfaaDoor.Codec Go.Proofs.YtdgbililgkhjfaaDoor.Frame
set_option linter.unusedVariables false
theorem cellsIn : Tryd.prog.cellsOf 42 = 1 := by kernel_rfl
theorem guardP : Tryd.prog.eqGuardType Tryd.prog.depth 44 = false := by kernel_rfl
theorem beq_nat (a b : Nat) : ((a : Int) == (b : Int)) = decide (a = b) := by
  by_cases h : a = b
  · simp [h]
  · have : ¬ (a : Int) = (b : Int) := by omega
    simp [h, this]
theorem pair_eq (d a b c e : Nat) (W : World) :
    (Op.equalIn (d + 2) 44 (.agg #[.int .u8 a, .int .u8 b]) (.agg #[.int .u8 c, .int .u8 e])).run Tryd.prog W = .ok (decide (a = c) && decide (b = e)) W := by
  obtain ⟨i, hi, _⟩ := info_parts infoI
  rw [run_equalIn_array W (d + 1) _ _ Tryd.underlying44 hi, cellsIn]
  have p0 : ∀ (xs : Array Value) (k : Nat) (u : Value), xs[k]? = some u → (part 42 xs k).run Tryd.prog W = .ok u W := fun xs k u h => by
    simp [part, isAgg, run_underlying Tryd.underlying42, h]
  have q : ∀ x y : Nat, (Op.equalIn (d + 1) 42 (.int .u8 x) (.int .u8 y)).run Tryd.prog W = .ok (decide (x = y)) W := fun x y => by
    rw [run_equalIn_int W d 42 .u8 .u8 x y Tryd.underlying42, beq_nat]
  rw [show List.range 2 = [0, 1] from rfl]
  simp only [Op.eqItems, Sem.run_bind]
  rw [p0 #[.int .u8 a, .int .u8 b] (0 * 1) (.int .u8 a) rfl, Result.andThen_ok, p0 #[.int .u8 c, .int .u8 e] (0 * 1) (.int .u8 c) rfl, Result.andThen_ok, q, Result.andThen_ok]
  by_cases h : a = c
  · rw [decide_eq_true h]
    simp only [Bool.not_true, Bool.false_eq_true, if_false, Sem.run_bind, Bool.true_and]
    rw [p0 #[.int .u8 a, .int .u8 b] (1 * 1) (.int .u8 b) rfl, Result.andThen_ok, p0 #[.int .u8 c, .int .u8 e] (1 * 1) (.int .u8 e) rfl, Result.andThen_ok, q, Result.andThen_ok]
    cases decide (b = e) <;> simp
  · rw [decide_eq_false h]; simp
theorem pair_ne {x y : UInt8 × UInt8} (h : ¬ x = y) : (decide (x.1.toNat = y.1.toNat) && decide (x.2.toNat = y.2.toNat)) = false := by
  cases hb : (decide (x.1.toNat = y.1.toNat) && decide (x.2.toNat = y.2.toNat)) with
  | false => rfl
  | true =>
    rw [Bool.and_eq_true, decide_eq_true_iff, decide_eq_true_iff] at hb
    exact absurd (Prod.ext (UInt8.toNat_inj.1 hb.1) (UInt8.toNat_inj.1 hb.2)) h
theorem eq_take {α : Type} (a b : List α) (k : Nat) (ha : k < a.length) (hb : k < b.length) (h : a.take k = b.take k) : (a[k] = b[k] → a.take (k + 1) = b.take (k + 1)) ∧ (a[k] ≠ b[k] → a ≠ b) := by
  refine ⟨fun he => ?_, fun he hab => he ?_⟩
  · rw [List.take_succ_eq_append_getElem ha, List.take_succ_eq_append_getElem hb, h, he]
  · subst hab; rfl
set_option maxRecDepth 100000 in
theorem equal1 (va vb : Value) (la lb : List UInt8) (w : World) (hA : Ins w va la) (hB : Ins w vb lb) :
    Calls Tryd.prog 63 #[va, vb] w fun e w' => e = .returned (.bool (decide (la = lb))) ∧ Below w.heap.size w w' := by
  obtain ⟨ba, ca, rfl, hla, hca⟩ := hA
  obtain ⟨bb, cb, rfl, hlb, hcb⟩ := hB
  by_cases hn : lb.length = la.length
  · have HA := Lib.hid hca
    have HB := Lib.hid hcb
    rw [hn]
    obtain ⟨n, hnl⟩ : ∃ n, n = la.length := ⟨_, rfl⟩
    have hlt0 := fun k (h : k < la.length) (h' : k < lb.length) => eq_take la lb k h h'
    have hfin : la.take n = lb.take n ↔ la = lb := by rw [hnl, List.take_length, ← hn, List.take_length]
    rw [← hnl] at hla ⊢
    obtain ⟨X, hX⟩ : ∃ X, X = decide (la = lb) := ⟨_, rfl⟩
    rw [← hX]
    have HF := Lib.hid hfin
    have HX := Lib.hid hX
    have HL := Lib.hid hlt0
    have HN := Lib.hid hnl
    have HM := Lib.hid hn
    have hne : ((n : Int) != (n : Int)) = false := by simp
    clear hca hcb hlb hfin hX hlt0 hnl hn
    go_enter Tryd.func63, Tryd.ntmps63
    go_wp2
    go_loopw [5, 13] (fun _ i wr => ∃ k : Nat, k ≤ n ∧ i = .int .i64 k ∧ la.take k = lb.take k ∧ Below w.heap.size w wr) (fun _ i _ => n - (intOf i).toNat)
    case atStart => exact ⟨0, Nat.zero_le _, rfl, rfl, Below.refl _ _⟩
    case round =>
      obtain ⟨k, hk, rfl, hno, hbel⟩ := hrel
      by_cases hlt : k < n
      · obtain ⟨ga, oa, rfl, ha, h1⟩ := HA.out k (by have := HN.out; omega)
        obtain ⟨gb, ob, rfl, hb, h2⟩ := HB.out k (by have := HN.out; have := HM.out; omega)
        obtain ⟨hgo, hstop⟩ := HL.out k (by have := HN.out; omega) (by have := HN.out; have := HM.out; omega) hno
        have d1 : wr.cell? ⟨ga, oa + k, none⟩ = some (.int .u8 (la[k]'(by have := HN.out; omega)).toNat) := (hbel.cell (p := ⟨ga, oa + k, none⟩) ha).trans h1
        have d2 : wr.cell? ⟨gb, ob + k, none⟩ = some (.int .u8 (lb[k]'(by have := HN.out; have := HM.out; omega)).toNat) := (hbel.cell (p := ⟨gb, ob + k, none⟩) hb).trans h2
        clear h1 h2
        generalize la[k]'(by have := HN.out; omega) = x at *
        generalize lb[k]'(by have := HN.out; have := HM.out; omega) = y at *
        have HG := Lib.hid hgo
        have HS := Lib.hid hstop
        have HBE := Lib.hid hbel
        clear hgo hstop hno hbel
        by_cases hxy : x = y
        · subst hxy
          have hb0 : ((x.toNat : Int) != (x.toNat : Int)) = false := by simp
          go_wp2
          go_quiet (fail)
          go_wp2
          go_roundw
          case rel => exact ⟨k + 1, by omega, by go_num, HG.out (by first | rfl | trivial), bel_drewN HBE.out _⟩
          case measure => simp [intOf]; omega
        · have hb0 : ((x.toNat : Int) != (y.toNat : Int)) = true := by rw [bne_iff_ne]; intro e; exact hxy (UInt8.toNat_inj.1 (by omega))
          go_wp2
          go_quiet (fail)
          go_wp2
          go_ret
          exact ⟨(by rw [HX.out, decide_eq_false (HS.out hxy)]; rfl), bel_drewN HBE.out _⟩
      · obtain rfl : k = n := by omega
        have HNO := Lib.hid (HF.out.1 hno)
        have HBE := Lib.hid hbel
        clear hno hbel
        go_wp2
        go_ret
        exact ⟨(by rw [HX.out, decide_eq_true HNO.out]; rfl), HBE.out⟩
  · have hne : ((la.length : Int) != (lb.length : Int)) = true := by rw [bne_iff_ne]; omega
    have hX : decide (la = lb) = false := decide_eq_false fun e => hn (by rw [e])
    rw [hX]
    clear hca hcb hX
    go_enter Tryd.func63, Tryd.ntmps63
    go_wp2
    go_ret
    exact ⟨rfl, Below.refl _ w⟩
set_option maxRecDepth 100000 in
theorem equal2 (va vb : Value) (la lb : List (UInt8 × UInt8)) (w : World) (hA : Prs w va la) (hB : Prs w vb lb) :
    Calls Tryd.prog 64 #[va, vb] w fun e w' => e = .returned (.bool (decide (la = lb))) ∧ Below w.heap.size w w' := by
  obtain ⟨ba, ca, rfl, hla, hca⟩ := hA
  obtain ⟨bb, cb, rfl, hlb, hcb⟩ := hB
  by_cases hn : lb.length = la.length
  · have HA := Lib.hid hca
    have HB := Lib.hid hcb
    rw [hn]
    obtain ⟨n, hnl⟩ : ∃ n, n = la.length := ⟨_, rfl⟩
    have hlt0 := fun k (h : k < la.length) (h' : k < lb.length) => eq_take la lb k h h'
    have hfin : la.take n = lb.take n ↔ la = lb := by rw [hnl, List.take_length, ← hn, List.take_length]
    rw [← hnl] at hla ⊢
    obtain ⟨X, hX⟩ : ∃ X, X = decide (la = lb) := ⟨_, rfl⟩
    rw [← hX]
    have HF := Lib.hid hfin
    have HX := Lib.hid hX
    have HL := Lib.hid hlt0
    have HN := Lib.hid hnl
    have HM := Lib.hid hn
    have hne : ((n : Int) != (n : Int)) = false := by simp
    clear hca hcb hlb hfin hX hlt0 hnl hn
    go_enter Tryd.func64, Tryd.ntmps64
    go_wp2
    go_loopw [5, 13] (fun _ i wr => ∃ k : Nat, k ≤ n ∧ i = .int .i64 k ∧ la.take k = lb.take k ∧ Below w.heap.size w wr) (fun _ i _ => n - (intOf i).toNat)
    case atStart => exact ⟨0, Nat.zero_le _, rfl, rfl, Below.refl _ _⟩
    case round =>
      obtain ⟨k, hk, rfl, hno, hbel⟩ := hrel
      by_cases hlt : k < n
      · obtain ⟨ga, oa, rfl, ha, h1, h1'⟩ := HA.out k (by have := HN.out; omega)
        obtain ⟨gb, ob, rfl, hb, h2, h2'⟩ := HB.out k (by have := HN.out; have := HM.out; omega)
        obtain ⟨hgo, hstop⟩ := HL.out k (by have := HN.out; omega) (by have := HN.out; have := HM.out; omega) hno
        have d1 : wr.cell? ⟨ga, oa + k * 2, none⟩ = some (.int .u8 (la[k]'(by have := HN.out; omega)).1.toNat) := (hbel.cell (p := ⟨ga, oa + k * 2, none⟩) ha).trans h1
        have d1' : wr.cell? ⟨ga, oa + k * 2 + 1, none⟩ = some (.int .u8 (la[k]'(by have := HN.out; omega)).2.toNat) := (hbel.cell (p := ⟨ga, oa + k * 2 + 1, none⟩) ha).trans h1'
        have d2 : wr.cell? ⟨gb, ob + k * 2, none⟩ = some (.int .u8 (lb[k]'(by have := HN.out; have := HM.out; omega)).1.toNat) := (hbel.cell (p := ⟨gb, ob + k * 2, none⟩) hb).trans h2
        have d2' : wr.cell? ⟨gb, ob + k * 2 + 1, none⟩ = some (.int .u8 (lb[k]'(by have := HN.out; have := HM.out; omega)).2.toNat) := (hbel.cell (p := ⟨gb, ob + k * 2 + 1, none⟩) hb).trans h2'
        clear h1 h2 h1' h2'
        generalize la[k]'(by have := HN.out; omega) = x at *
        generalize lb[k]'(by have := HN.out; have := HM.out; omega) = y at *
        have HG := Lib.hid hgo
        have HS := Lib.hid hstop
        have HBE := Lib.hid hbel
        clear hgo hstop hno hbel
        by_cases hxy : x = y
        · subst hxy
          have hg := guardP
          have he := fun W => pair_eq 9998 x.1.toNat x.2.toNat x.1.toNat x.2.toNat W
          simp only [decide_true, Bool.and_true] at he
          go_wp2
          go_quiet (fail)
          go_wp2
          go_roundw
          case rel => exact ⟨k + 1, by omega, by go_num, HG.out (by first | rfl | trivial), bel_drewN HBE.out _⟩
          case measure => simp [intOf]; omega
        · have hg := guardP
          have he := fun W => pair_eq 9998 x.1.toNat x.2.toNat y.1.toNat y.2.toNat W
          rw [pair_ne hxy] at he
          go_wp2
          go_quiet (fail)
          go_wp2
          go_ret
          exact ⟨(by rw [HX.out, decide_eq_false (HS.out hxy)]; rfl), bel_drewN HBE.out _⟩
      · obtain rfl : k = n := by omega
        have HNO := Lib.hid (HF.out.1 hno)
        have HBE := Lib.hid hbel
        clear hno hbel
        go_wp2
        go_ret
        exact ⟨(by rw [HX.out, decide_eq_true HNO.out]; rfl), HBE.out⟩
  · have hne : ((la.length : Int) != (lb.length : Int)) = true := by rw [bne_iff_ne]; omega
    have hX : decide (la = lb) = false := decide_eq_false fun e => hn (by rw [e])
    rw [hX]
    clear hca hcb hX
    go_enter Tryd.func64, Tryd.ntmps64
    go_wp2
    go_ret
    exact ⟨rfl, Below.refl _ w⟩
end Go.Proofs.YtdgbililgkhjfaaDoor.Pk
