/- What the program's functions of a link answer, but Accept: walked. Condition: the link's block. -/
import Derived.Test.YtdgbililgkhjfaaDoorLk0
import Derived.Test.YtdgbililgkhjfaaDoorPkT
import Derived.BigQuiet
namespace Go.Proofs.YtdgbililgkhjfaaDoor.Lk
open Go.RowKit Go.Proofs.YtdgbililgkhjfaaDoor.Crc Go.Proofs.YtdgbililgkhjfaaDoor.Codec Go.Proofs.YtdgbililgkhjfaaDoor.Pk Go.Proofs.YtdgbililgkhjfaaDoor.CrcWalk Go.Proofs.YtdgbililgkhjfaaDoor.Frame
set_option linter.unusedVariables false
set_option linter.unusedSimpArgs false
theorem ret_win {x y : Int} {f m : Nat} (h1 : x = f) (h2 : y = m) : Ending.returned (.tuple #[.int .u64 x, .int .i64 y]) = .returned (.tuple #[.int .u64 f, .int .i64 m]) := by rw [h1, h2]
theorem far_blk {W : World} {g q : Nat} {cs : Array Value} {t : TypeId} (h : Blk W g cs t) (hne : q ≠ g) (o : Nat) (v : Value) : Blk (W.setCell ⟨q, o, none⟩ v) g cs t := by
  show (W.heap.modify q _)[g]? = _
  rw [Array.getElem?_modify, if_neg hne]; exact h
theorem far_row {W : World} {g q : Nat} {cs : Array Value} {t : TypeId} (h : Blk W g cs t) (hne : q ≠ g) (r : Array Value) : Blk (W.setRow q r) g cs t := by
  show (W.heap.modify q _)[g]? = _
  rw [Array.getElem?_modify, if_neg hne]; exact h
theorem kp_row {B p : Nat} {a w : World} (h : Kp B p a w) (cs : Array Value) : Kp B p a (w.setRow p cs) :=
  h.trans ⟨rfl, rfl, rfl, by simp [World.setRow], fun k _ hk => setRow_other w p k cs hk⟩
theorem blk_of {w w' : World} {q : Nat} {cs : Array Value} {t : TypeId} (h : Below w.heap.size w w') (hb : Blk w q cs t) : Blk w' q cs t := (h.block _ hb.lt).trans hb
set_option maxRecDepth 100000 in
theorem epoch_any (l : L) (g : Nat)  (w : World) (hb : Blk w g (lc l) 74) (hl : l.wf) :
    Calls Tryd.prog 30 #[.pointer (some ⟨g, 0, none⟩)] w fun e w' => e = .returned (.int .u64 l.epoch) ∧ w = w' := by
  have c0 : w.cell? ⟨g, 0, none⟩ = some (.int .u64 l.epoch) := hb.cell _ rfl
  have c6 : w.cell? ⟨g, 6, none⟩ = some (.int .u64 l.every) := hb.cell _ rfl
  have hev : 0 < l.every := hl.every
  clear hb hl
  go_enter Tryd.func30, Tryd.ntmps30
  go_wp2
  go_ret
  exact ⟨rfl, rfl⟩
set_option maxRecDepth 100000 in
theorem count_any (l : L) (g : Nat)  (w : World) (hb : Blk w g (lc l) 74) (hl : l.wf) :
    Calls Tryd.prog 31 #[.pointer (some ⟨g, 0, none⟩)] w fun e w' => e = .returned (.int .u64 l.count) ∧ w = w' := by
  have c1 : w.cell? ⟨g, 1, none⟩ = some (.int .u64 l.count) := hb.cell _ rfl
  have c6 : w.cell? ⟨g, 6, none⟩ = some (.int .u64 l.every) := hb.cell _ rfl
  have hev : 0 < l.every := hl.every
  clear hb hl
  go_enter Tryd.func31, Tryd.ntmps31
  go_wp2
  go_ret
  exact ⟨rfl, rfl⟩
set_option maxRecDepth 100000 in
theorem owned_any (l : L) (g : Nat)  (w : World) (hb : Blk w g (lc l) 74) (hl : l.wf) :
    Calls Tryd.prog 32 #[.pointer (some ⟨g, 0, none⟩)] w fun e w' => e = .returned (.int .u64 l.owned) ∧ w = w' := by
  have c2 : w.cell? ⟨g, 2, none⟩ = some (.int .u64 l.owned) := hb.cell _ rfl
  have c6 : w.cell? ⟨g, 6, none⟩ = some (.int .u64 l.every) := hb.cell _ rfl
  have hev : 0 < l.every := hl.every
  clear hb hl
  go_enter Tryd.func32, Tryd.ntmps32
  go_wp2
  go_ret
  exact ⟨rfl, rfl⟩
set_option maxRecDepth 100000 in
theorem met_any (l : L) (g : Nat)  (w : World) (hb : Blk w g (lc l) 74) (hl : l.wf) :
    Calls Tryd.prog 33 #[.pointer (some ⟨g, 0, none⟩)] w fun e w' => e = .returned (.bool l.met) ∧ w = w' := by
  have c3 : w.cell? ⟨g, 3, none⟩ = some (.bool l.met) := hb.cell _ rfl
  have c6 : w.cell? ⟨g, 6, none⟩ = some (.int .u64 l.every) := hb.cell _ rfl
  have hev : 0 < l.every := hl.every
  clear hb hl
  go_enter Tryd.func33, Tryd.ntmps33
  go_wp2
  go_ret
  exact ⟨rfl, rfl⟩
set_option maxRecDepth 100000 in
theorem urge_any (l : L) (g : Nat)  (w : World) (hb : Blk w g (lc l) 74) (hl : l.wf) :
    Calls Tryd.prog 38 #[.pointer (some ⟨g, 0, none⟩)] w fun e w' => e = .returned (.tuple #[]) ∧ Blk w' g (lc l.urge) 74 ∧ Kp w.heap.size g w w' := by
  have c6 : w.cell? ⟨g, 6, none⟩ = some (.int .u64 l.every) := hb.cell _ rfl
  have c8 : w.cell? ⟨g, 8, none⟩ = some (.bool l.urged) := hb.cell _ rfl
  have f8 : w.frozen? ⟨g, 8, none⟩ = false := hb.free
  have hev : 0 < l.every := hl.every
  have hB := hb.set (off := 8) (.bool true)
  have HB := Lib.hid hB
  have HK := Lib.hid ((Kp.refl w.heap.size g w).setCell ⟨g, 8, none⟩ rfl (.bool true))
  clear hB hb hl
  go_enter Tryd.func38, Tryd.ntmps38
  go_wp2
  go_end0
  exact ⟨rfl, HB.out, HK.out⟩
set_option maxRecDepth 100000 in
theorem sent_any (l : L) (g : Nat) (now : Nat) (w : World) (hb : Blk w g (lc l) 74) (hl : l.wf) (hn : now < 18446744073709551616) :
    Calls Tryd.prog 27 #[.pointer (some ⟨g, 0, none⟩), .int .u64 now] w fun e w' => e = .returned (.tuple #[]) ∧ Blk w' g (lc (l.sent now)) 74 ∧ Kp w.heap.size g w w' := by
  have c6 : w.cell? ⟨g, 6, none⟩ = some (.int .u64 l.every) := hb.cell _ rfl
  have c7 : w.cell? ⟨g, 7, none⟩ = some (.int .u64 l.last) := hb.cell _ rfl
  have c8 : w.cell? ⟨g, 8, none⟩ = some (.bool l.urged) := hb.cell _ rfl
  have c9 : w.cell? ⟨g, 9, none⟩ = some (.bool l.spoke) := hb.cell _ rfl
  have f7 : w.frozen? ⟨g, 7, none⟩ = false := hb.free
  have f8 : w.frozen? ⟨g, 8, none⟩ = false := hb.free
  have f9 : w.frozen? ⟨g, 9, none⟩ = false := hb.free
  have hev : 0 < l.every := hl.every
  have hB := ((hb.set (off := 8) (.bool false)).set (off := 9) (.bool true)).set (off := 7) (.int .u64 now)
  have HB := Lib.hid hB
  have HK := Lib.hid ((((Kp.refl w.heap.size g w).setCell ⟨g, 8, none⟩ rfl (.bool false)).setCell ⟨g, 9, none⟩ rfl (.bool true)).setCell ⟨g, 7, none⟩ rfl (.int .u64 now))
  clear hB hb hl
  go_enter Tryd.func27, Tryd.ntmps27
  go_wp2
  go_end0
  exact ⟨rfl, HB.out, HK.out⟩
set_option maxRecDepth 100000 in
theorem due_any (l : L) (g : Nat) (now : Nat) (w : World) (hb : Blk w g (lc l) 74) (hl : l.wf) (hn : now < 18446744073709551616) :
    Calls Tryd.prog 26 #[.pointer (some ⟨g, 0, none⟩), .int .u64 now] w fun e w' => e = .returned (.bool (l.due now)) ∧ Below w.heap.size w w' := by
  have c6 : w.cell? ⟨g, 6, none⟩ = some (.int .u64 l.every) := hb.cell _ rfl
  have c7 : w.cell? ⟨g, 7, none⟩ = some (.int .u64 l.last) := hb.cell _ rfl
  have c8 : w.cell? ⟨g, 8, none⟩ = some (.bool l.urged) := hb.cell _ rfl
  have c9 : w.cell? ⟨g, 9, none⟩ = some (.bool l.spoke) := hb.cell _ rfl
  have hev : 0 < l.every := hl.every
  have hlast := hl.last
  have hevy := hl.every
  have hevs := hl.every16
  obtain ⟨X, hX⟩ : ∃ X, X = l.due now := ⟨_, rfl⟩
  rw [← hX]
  have hY : X = (l.urged || (!l.spoke || (decide (l.last ≤ now) && decide (l.every ≤ now - l.last)))) := hX
  clear hX hb hl
  obtain ⟨epoch, count, owned, met, player, own, every, last, urged, spoke⟩ := l
  dsimp only at *
  have HX := Lib.hid hY
  clear hY
  cases urged with
  | true =>
    go_enter Tryd.func26, Tryd.ntmps26
    go_wp2
    go_quiet (fail)
    go_wp2
    go_ret
    exact ⟨by rw [HX.out]; rfl, bel_drewN (Below.refl _ _) _⟩
  | false =>
    cases spoke with
    | false =>
      go_enter Tryd.func26, Tryd.ntmps26
      go_wp2
      go_quiet (fail)
      go_wp2
      go_ret
      exact ⟨by rw [HX.out]; rfl, bel_drewN (Below.refl _ _) _⟩
    | true =>
      by_cases h1 : last ≤ now
      · have e1 : decide (last ≤ now) = true := decide_eq_true h1
        have e2 : IntKind.u64.wrap ((now : Int) - (last : Int)) = ((now - last : Nat) : Int) := by rw [IntWalk.u64_in _ (by omega)]; omega
        obtain ⟨d, hd⟩ : ∃ d, d = now - last := ⟨_, rfl⟩
        rw [← hd] at e2
        by_cases h2 : every ≤ d
        · have e3 : decide (every ≤ d) = true := decide_eq_true h2
          have HH := Lib.hid (show last ≤ now ∧ every ≤ now - last from ⟨h1, by omega⟩)
          clear h1 h2 hd
          go_enter Tryd.func26, Tryd.ntmps26
          go_wp2
          go_quiet (fail)
          go_wp2
          go_ret
          exact ⟨by rw [HX.out]; simp [HH.out], bel_drewN (Below.refl _ _) _⟩
        · have e3 : decide (every ≤ d) = false := decide_eq_false h2
          have HH := Lib.hid (show ¬ every ≤ now - last by omega)
          clear h1 h2 hd
          go_enter Tryd.func26, Tryd.ntmps26
          go_wp2
          go_quiet (fail)
          go_wp2
          go_ret
          exact ⟨by rw [HX.out]; simp [HH.out], bel_drewN (Below.refl _ _) _⟩
      · have e1 : decide (last ≤ now) = false := decide_eq_false h1
        have HH := Lib.hid h1
        clear h1
        go_enter Tryd.func26, Tryd.ntmps26
        go_wp2
        go_quiet (fail)
        go_wp2
        go_ret
        exact ⟨by rw [HX.out]; simp [HH.out], bel_drewN (Below.refl _ _) _⟩
set_option maxRecDepth 100000 in
theorem win_any (l : L) (g : Nat) (a b : Nat) (w : World) (hb : Blk w g (lc l) 74) (hl : l.wf) (ha : a < 18446744073709551616) (hbb : b < 18446744073709551616) :
    Calls Tryd.prog 78 #[.pointer (some ⟨g, 0, none⟩), .int .u64 a, .int .u64 b] w fun e w' => e = .returned (.tuple #[.int .u64 (l.first a b), .int .i64 (l.many a b)]) ∧ w = w' := by
  have c1 : w.cell? ⟨g, 1, none⟩ = some (.int .u64 l.count) := hb.cell _ rfl
  have c6 : w.cell? ⟨g, 6, none⟩ = some (.int .u64 l.every) := hb.cell _ rfl
  have hev : 0 < l.every := hl.every
  have hc := hl.count
  obtain ⟨f, hf⟩ : ∃ f, f = l.first a b := ⟨_, rfl⟩
  obtain ⟨m, hm⟩ : ∃ m, m = l.many a b := ⟨_, rfl⟩
  rw [← hf, ← hm]
  unfold L.many at hm
  unfold L.first at hf hm
  have HF := Lib.hid hf
  have HM := Lib.hid hm
  clear hb hl hf hm
  go_enter Tryd.func78, Tryd.ntmps78
  go_wp2
  all_goals
    go_ret2
    refine ⟨ret_win ?_ ?_, rfl⟩
    · have h1 := HF.out
      show (_ : Int) = _
      omega
    · have h1 := HM.out
      show (_ : Int) = _
      omega
end Go.Proofs.YtdgbililgkhjfaaDoor.Lk
