/- What the document's 'Same' answers: walked. Conditions: the lists lie in memory. -/
import Derived.Test.YtdgbililgkhjfaaDoorPkR
import Derived.Deep.DeepCutAuto
namespace Go.Proofs.YtdgbililgkhjfaaDoor.Pk
open Go.RowKit Go.Proofs.YtdgbililgkhjfaaDoor.Crc Go.Proofs.YtdgbililgkhjfaaDoor.Codec Go.Proofs.YtdgbililgkhjfaaDoor.Frame
set_option linter.unusedVariables false
set_option linter.unusedSimpArgs false
def lateN (a b : K) : Bool := decide (a.count = b.count ∧ a.own = b.own ∧ a.first = b.first ∧ a.frame = b.frame ∧ a.sum = b.sum)
theorem same_late {a b : K} (h : a.kind = b.kind ∧ a.player = b.player ∧ a.epoch = b.epoch ∧ a.dest = b.dest) : decide (a = b) = (decide (a.ins = b.ins) && (decide (a.prs = b.prs) && lateN a b)) := by
  unfold lateN
  rw [← Bool.decide_and, ← Bool.decide_and]
  refine decide_eq_decide.2 ⟨fun e => by subst e; simp, fun hh => ?_⟩
  obtain ⟨h1, h2, h3, h4, h5, h6, h7⟩ := hh
  exact K.ext' h.1 h.2.1 h.2.2.1 h.2.2.2 h3 h4 h5 h1 h2 h6 h7
set_option maxRecDepth 100000 in
set_option maxHeartbeats 4000000 in
theorem rsame_diff (a b : K) (ba bb pa pb : Option Addr) (n n' m m' ca cb da db : Nat) (w : World) (h : ¬ (n = n' ∧ m = m' ∧ a.kind = b.kind ∧ a.player = b.player ∧ a.epoch = b.epoch ∧ a.dest = b.dest)) :
    Calls Tryd.prog 21 #[.agg (pc a (.slice ba n ca) (.slice pa m da)), .agg (pc b (.slice bb n' cb) (.slice pb m' db))] w fun e w' => e = .returned (.bool false) ∧ Below w.heap.size w w' := by
  have HH := Lib.hid h
  clear h
  obtain ⟨kind, player, epoch, dest, count, own, first, ins, prs, frame, sum⟩ := a
  obtain ⟨kind', player', epoch', dest', count', own', first', ins', prs', frame', sum'⟩ := b
  dsimp only [pc] at *
  go_enter Tryd.func21, Tryd.ntmps21
  go_wp2_with fail
  all_goals first
    | (go_ret
       exact ⟨rfl, ((Below.refl _ w).alloc (Nat.le_refl _) _).alloc (by simp) _⟩)
    | (exfalso
       refine HH.out ?_
       try simp only [beq_iff_eq, beq_eq_false_iff_ne, ne_eq, bne_iff_ne, bne_eq_false_iff_eq] at *
       refine ⟨?_, ?_, ?_, ?_, ?_, ?_⟩ <;> omega)
set_option maxRecDepth 100000 in
set_option maxHeartbeats 8000000 in
theorem rsame_go (a b : K) (ba bb pa pb : Option Addr) (n m ca cb da db : Nat) (w : World) (hn : n = a.ins.length ∧ n = b.ins.length) (hm : m = a.prs.length ∧ m = b.prs.length) (h : a.kind = b.kind ∧ a.player = b.player ∧ a.epoch = b.epoch ∧ a.dest = b.dest)
    (hia : Ins w (.slice ba n ca) a.ins) (hib : Ins w (.slice bb n cb) b.ins) (hpa : Prs w (.slice pa m da) a.prs) (hpb : Prs w (.slice pb m db) b.prs) :
    Calls Tryd.prog 21 #[.agg (pc a (.slice ba n ca) (.slice pa m da)), .agg (pc b (.slice bb n cb) (.slice pb m db))] w fun e w' => e = .returned (.bool (decide (a = b))) ∧ Below w.heap.size w w' := by
  rw [same_late h]
  obtain ⟨X, hX⟩ : ∃ X, X = (decide (a.ins = b.ins) && (decide (a.prs = b.prs) && lateN a b)) := ⟨_, rfl⟩
  rw [← hX]
  have HX := Lib.hid hX
  have HN1 := Lib.hid hn
  have HN2 := Lib.hid hm
  have HT1 := Lib.hid (fun j h h' => eq_take a.ins b.ins j h h')
  have HT2 := Lib.hid (fun j h h' => eq_take a.prs b.prs j h h')
  have HF1 := Lib.hid (show a.ins.take n = b.ins.take n ↔ a.ins = b.ins by rw [List.take_of_length_le (by omega), List.take_of_length_le (by omega)])
  have HF2 := Lib.hid (show a.prs.take m = b.prs.take m ↔ a.prs = b.prs by rw [List.take_of_length_le (by omega), List.take_of_length_le (by omega)])
  have hn6 : n ≤ 1000000 := by have := hia.len; omega
  have hm6 : m ≤ 1000000 := by have := hpa.len; omega
  obtain ⟨_, _, ea, _, ia⟩ := hia
  obtain ⟨_, _, eb, _, ib⟩ := hib
  obtain ⟨_, _, fa, _, ja⟩ := hpa
  obtain ⟨_, _, fb, _, jb⟩ := hpb
  obtain ⟨rfl, -, rfl⟩ := Value.slice.inj ea
  obtain ⟨rfl, -, rfl⟩ := Value.slice.inj eb
  obtain ⟨rfl, -, rfl⟩ := Value.slice.inj fa
  obtain ⟨rfl, -, rfl⟩ := Value.slice.inj fb
  have HInsA := Lib.hid ia
  have HInsB := Lib.hid ib
  have HPrsA := Lib.hid ja
  have HPrsB := Lib.hid jb
  clear ia ib ja jb ea eb fa fb hn hm hX
  have k0 : (a.kind != b.kind) = false := by rw [h.1]; simp
  have k1 : ((a.player : Int) != (b.player : Int)) = false := by rw [h.2.1]; simp
  have k2 : ((a.epoch : Int) != (b.epoch : Int)) = false := by rw [h.2.2.1]; simp
  have k3 : ((a.dest : Int) != (b.dest : Int)) = false := by rw [h.2.2.2]; simp
  have k4 : ((n : Int) != (n : Int)) = false := by simp
  have k5 : ((m : Int) != (m : Int)) = false := by simp
  have HA0 : Blk ((w.alloc (.cells (pc a (.slice ba n ca) (.slice pa m da)) 34)).alloc (.cells (pc b (.slice bb n cb) (.slice pb m db)) 34)) w.heap.size (pc a (.slice ba n ca) (.slice pa m da)) 34 := (Below.heap_alloc _ _ _ (by simp)).trans (heap_alloc_new w _)
  have HB0 : Blk ((w.alloc (.cells (pc a (.slice ba n ca) (.slice pa m da)) 34)).alloc (.cells (pc b (.slice bb n cb) (.slice pb m db)) 34)) (w.heap.size + 1) (pc b (.slice bb n cb) (.slice pb m db)) 34 := by
    have := heap_alloc_new (w.alloc (.cells (pc a (.slice ba n ca) (.slice pa m da)) 34)) (.cells (pc b (.slice bb n cb) (.slice pb m db)) 34)
    rw [World.size_alloc] at this
    exact this
  have hbw0 : Below w.heap.size w ((w.alloc (.cells (pc a (.slice ba n ca) (.slice pa m da)) 34)).alloc (.cells (pc b (.slice bb n cb) (.slice pb m db)) 34)) := ((Below.refl _ w).alloc (Nat.le_refl _) _).alloc (by simp) _
  have hsz0 : w.heap.size + 1 < ((w.alloc (.cells (pc a (.slice ba n ca) (.slice pa m da)) 34)).alloc (.cells (pc b (.slice bb n cb) (.slice pb m db)) 34)).heap.size := HB0.lt
  have x0 : ((w.alloc (.cells (pc a (.slice ba n ca) (.slice pa m da)) 34)).alloc (.cells (pc b (.slice bb n cb) (.slice pb m db)) 34)).cell? ⟨w.heap.size, 0, none⟩ = some (.int .i64 a.kind) := HA0.cell _ rfl
  have y0 : ((w.alloc (.cells (pc a (.slice ba n ca) (.slice pa m da)) 34)).alloc (.cells (pc b (.slice bb n cb) (.slice pb m db)) 34)).cell? ⟨w.heap.size + 1, 0, none⟩ = some (.int .i64 b.kind) := HB0.cell _ rfl
  have x1 : ((w.alloc (.cells (pc a (.slice ba n ca) (.slice pa m da)) 34)).alloc (.cells (pc b (.slice bb n cb) (.slice pb m db)) 34)).cell? ⟨w.heap.size, 1, none⟩ = some (.int .u8 a.player) := HA0.cell _ rfl
  have y1 : ((w.alloc (.cells (pc a (.slice ba n ca) (.slice pa m da)) 34)).alloc (.cells (pc b (.slice bb n cb) (.slice pb m db)) 34)).cell? ⟨w.heap.size + 1, 1, none⟩ = some (.int .u8 b.player) := HB0.cell _ rfl
  have x2 : ((w.alloc (.cells (pc a (.slice ba n ca) (.slice pa m da)) 34)).alloc (.cells (pc b (.slice bb n cb) (.slice pb m db)) 34)).cell? ⟨w.heap.size, 2, none⟩ = some (.int .u64 a.epoch) := HA0.cell _ rfl
  have y2 : ((w.alloc (.cells (pc a (.slice ba n ca) (.slice pa m da)) 34)).alloc (.cells (pc b (.slice bb n cb) (.slice pb m db)) 34)).cell? ⟨w.heap.size + 1, 2, none⟩ = some (.int .u64 b.epoch) := HB0.cell _ rfl
  have x3 : ((w.alloc (.cells (pc a (.slice ba n ca) (.slice pa m da)) 34)).alloc (.cells (pc b (.slice bb n cb) (.slice pb m db)) 34)).cell? ⟨w.heap.size, 3, none⟩ = some (.int .u64 a.dest) := HA0.cell _ rfl
  have y3 : ((w.alloc (.cells (pc a (.slice ba n ca) (.slice pa m da)) 34)).alloc (.cells (pc b (.slice bb n cb) (.slice pb m db)) 34)).cell? ⟨w.heap.size + 1, 3, none⟩ = some (.int .u64 b.dest) := HB0.cell _ rfl
  have x7 : ((w.alloc (.cells (pc a (.slice ba n ca) (.slice pa m da)) 34)).alloc (.cells (pc b (.slice bb n cb) (.slice pb m db)) 34)).cell? ⟨w.heap.size, 7, none⟩ = some ((.slice ba n ca)) := HA0.cell _ rfl
  have y7 : ((w.alloc (.cells (pc a (.slice ba n ca) (.slice pa m da)) 34)).alloc (.cells (pc b (.slice bb n cb) (.slice pb m db)) 34)).cell? ⟨w.heap.size + 1, 7, none⟩ = some ((.slice bb n cb)) := HB0.cell _ rfl
  have x8 : ((w.alloc (.cells (pc a (.slice ba n ca) (.slice pa m da)) 34)).alloc (.cells (pc b (.slice bb n cb) (.slice pb m db)) 34)).cell? ⟨w.heap.size, 8, none⟩ = some ((.slice pa m da)) := HA0.cell _ rfl
  have y8 : ((w.alloc (.cells (pc a (.slice ba n ca) (.slice pa m da)) 34)).alloc (.cells (pc b (.slice bb n cb) (.slice pb m db)) 34)).cell? ⟨w.heap.size + 1, 8, none⟩ = some ((.slice pb m db)) := HB0.cell _ rfl
  clear h
  go_enter Tryd.func21, Tryd.ntmps21
  go_upto_region 1 with fail
  generalize ((w.alloc (.cells (pc a (.slice ba n ca) (.slice pa m da)) 34)).alloc (.cells (pc b (.slice bb n cb) (.slice pb m db)) 34)) = w1 at *
  have HA := Lib.hid HA0
  have HB := Lib.hid HB0
  have HBW := Lib.hid hbw0
  have hga : w.heap.size < w1.heap.size := by omega
  have hgb : w.heap.size + 1 < w1.heap.size := hsz0
  clear HA0 HB0 hbw0 hsz0
  go_wp2
  clear x0 y0 x1 y1 x2 y2 x3 y3 x7 y7 x8 y8
  go_loopw [5] (fun i wr => ∃ j : Nat, j ≤ n ∧ i = .int .i64 j ∧ a.ins.take j = b.ins.take j ∧ Below w1.heap.size w1 wr) (fun i _ => n - (intOf i).toNat)
  case atStart => exact ⟨0, Nat.zero_le _, rfl, rfl, Below.refl _ _⟩
  case round =>
    obtain ⟨j, hj, rfl, hno, hbel⟩ := hrel
    have HBE := Lib.hid hbel
    have f7 : wr.cell? ⟨w.heap.size, 7, none⟩ = some ((.slice ba n ca)) := Blk.cell (W := wr) ((hbel.block _ hga).trans HA.out) _ rfl
    have g7 : wr.cell? ⟨w.heap.size + 1, 7, none⟩ = some ((.slice bb n cb)) := Blk.cell (W := wr) ((hbel.block _ hgb).trans HB.out) _ rfl
    by_cases hlt : j < n
    · obtain ⟨ga, oa, rfl, ha, h1⟩ := HInsA.out j (by have := HN1.out; omega)
      obtain ⟨gb, ob, rfl, hb, h2⟩ := HInsB.out j (by have := HN1.out; omega)
      obtain ⟨hgo, hstop⟩ := HT1.out j (by have := HN1.out; omega) (by have := HN1.out; omega) hno
      have hbw : Below w.heap.size w wr := HBW.out.trans (hbel.mono HBW.out.size)
      have d1 : wr.cell? ⟨ga, oa + j, none⟩ = some (.int .u8 (a.ins[j]'(by have := HN1.out; omega)).toNat) := (hbw.cell (p := ⟨ga, oa + j, none⟩) ha).trans h1
      have d2 : wr.cell? ⟨gb, ob + j, none⟩ = some (.int .u8 (b.ins[j]'(by have := HN1.out; omega)).toNat) := (hbw.cell (p := ⟨gb, ob + j, none⟩) hb).trans h2
      clear h1 h2
      generalize a.ins[j]'(by have := HN1.out; omega) = x at *
      generalize b.ins[j]'(by have := HN1.out; omega) = y at *
      have HG := Lib.hid hgo
      have HS := Lib.hid hstop
      clear hgo hstop hno hbel
      by_cases hxy : x = y
      · subst hxy
        have hb0 : ((x.toNat : Int) != (x.toNat : Int)) = false := by simp
        go_wp2
        go_quiet (fail)
        go_wp2
        go_roundw
        case rel => exact ⟨j + 1, by omega, by go_num, HG.out (by first | rfl | trivial), bel_drewN HBE.out _⟩
        case measure => simp [intOf]; omega
      · have hb0 : ((x.toNat : Int) != (y.toNat : Int)) = true := by rw [bne_iff_ne]; intro e; exact hxy (UInt8.toNat_inj.1 (by omega))
        go_wp2
        go_quiet (fail)
        go_wp2
        go_ret
        exact ⟨(by rw [HX.out, decide_eq_false (HS.out hxy)]; simp), bel_drewN hbw _⟩
    · obtain rfl : j = n := by omega
      have HE1 := Lib.hid (HF1.out.1 hno)
      clear hno hbel
      have HBE1 := HBE
      go_wp2
      go_loopw [6] (fun i wr => ∃ j : Nat, j ≤ m ∧ i = .int .i64 j ∧ a.prs.take j = b.prs.take j ∧ Below w1.heap.size w1 wr) (fun i _ => m - (intOf i).toNat)
      case atStart => exact ⟨0, Nat.zero_le _, rfl, rfl, HBE1.out⟩
      case round =>
        obtain ⟨j, hj, rfl, hno, hbel⟩ := hrel
        have HBE := Lib.hid hbel
        have f7 : wr.cell? ⟨w.heap.size, 8, none⟩ = some ((.slice pa m da)) := Blk.cell (W := wr) ((hbel.block _ hga).trans HA.out) _ rfl
        have g7 : wr.cell? ⟨w.heap.size + 1, 8, none⟩ = some ((.slice pb m db)) := Blk.cell (W := wr) ((hbel.block _ hgb).trans HB.out) _ rfl
        by_cases hlt : j < m
        · obtain ⟨ga, oa, rfl, ha, h1, h1'⟩ := HPrsA.out j (by have := HN2.out; omega)
          obtain ⟨gb, ob, rfl, hb, h2, h2'⟩ := HPrsB.out j (by have := HN2.out; omega)
          obtain ⟨hgo, hstop⟩ := HT2.out j (by have := HN2.out; omega) (by have := HN2.out; omega) hno
          have hbw : Below w.heap.size w wr := HBW.out.trans (hbel.mono HBW.out.size)
          have d1 : wr.cell? ⟨ga, oa + j * 2, none⟩ = some (.int .u8 (a.prs[j]'(by have := HN2.out; omega)).1.toNat) := (hbw.cell (p := ⟨ga, oa + j * 2, none⟩) ha).trans h1
          have d1' : wr.cell? ⟨ga, oa + j * 2 + 1, none⟩ = some (.int .u8 (a.prs[j]'(by have := HN2.out; omega)).2.toNat) := (hbw.cell (p := ⟨ga, oa + j * 2 + 1, none⟩) ha).trans h1'
          have d2 : wr.cell? ⟨gb, ob + j * 2, none⟩ = some (.int .u8 (b.prs[j]'(by have := HN2.out; omega)).1.toNat) := (hbw.cell (p := ⟨gb, ob + j * 2, none⟩) hb).trans h2
          have d2' : wr.cell? ⟨gb, ob + j * 2 + 1, none⟩ = some (.int .u8 (b.prs[j]'(by have := HN2.out; omega)).2.toNat) := (hbw.cell (p := ⟨gb, ob + j * 2 + 1, none⟩) hb).trans h2'
          clear h1 h1' h2 h2'
          generalize a.prs[j]'(by have := HN2.out; omega) = x at *
          generalize b.prs[j]'(by have := HN2.out; omega) = y at *
          have HG := Lib.hid hgo
          have HS := Lib.hid hstop
          clear hgo hstop hno hbel
          by_cases hxy : x = y
          · subst hxy
            have hg := guardP
            have he := fun W => pair_eq 9998 x.1.toNat x.2.toNat x.1.toNat x.2.toNat W
            simp only [decide_true, Bool.and_true] at he
            go_wp2
            go_quiet (fail)
            go_wp2
            go_roundw
            case rel => exact ⟨j + 1, by omega, by go_num, HG.out (by first | rfl | trivial), bel_drewN HBE.out _⟩
            case measure => simp [intOf]; omega
          · have hg := guardP
            have he := fun W => pair_eq 9998 x.1.toNat x.2.toNat y.1.toNat y.2.toNat W
            rw [pair_ne hxy] at he
            go_wp2
            go_quiet (fail)
            go_wp2
            go_ret
            exact ⟨(by rw [HX.out, decide_eq_false (HS.out hxy)]; simp), bel_drewN hbw _⟩
        · obtain rfl : j = m := by omega
          have HE2 := Lib.hid (HF2.out.1 hno)
          clear hno hbel
          have hbl := HBE.out
          have p4 : wr.cell? ⟨w.heap.size, 4, none⟩ = some (.int .u64 a.count) := Blk.cell (W := wr) ((hbl.block _ hga).trans HA.out) _ rfl
          have q4 : wr.cell? ⟨w.heap.size + 1, 4, none⟩ = some (.int .u64 b.count) := Blk.cell (W := wr) ((hbl.block _ hgb).trans HB.out) _ rfl
          have p5 : wr.cell? ⟨w.heap.size, 5, none⟩ = some (.int .u64 a.own) := Blk.cell (W := wr) ((hbl.block _ hga).trans HA.out) _ rfl
          have q5 : wr.cell? ⟨w.heap.size + 1, 5, none⟩ = some (.int .u64 b.own) := Blk.cell (W := wr) ((hbl.block _ hgb).trans HB.out) _ rfl
          have p6 : wr.cell? ⟨w.heap.size, 6, none⟩ = some (.int .u64 a.first) := Blk.cell (W := wr) ((hbl.block _ hga).trans HA.out) _ rfl
          have q6 : wr.cell? ⟨w.heap.size + 1, 6, none⟩ = some (.int .u64 b.first) := Blk.cell (W := wr) ((hbl.block _ hgb).trans HB.out) _ rfl
          have p9 : wr.cell? ⟨w.heap.size, 9, none⟩ = some (.int .u64 a.frame) := Blk.cell (W := wr) ((hbl.block _ hga).trans HA.out) _ rfl
          have q9 : wr.cell? ⟨w.heap.size + 1, 9, none⟩ = some (.int .u64 b.frame) := Blk.cell (W := wr) ((hbl.block _ hgb).trans HB.out) _ rfl
          have p10 : wr.cell? ⟨w.heap.size, 10, none⟩ = some (.int .u64 a.sum) := Blk.cell (W := wr) ((hbl.block _ hga).trans HA.out) _ rfl
          have q10 : wr.cell? ⟨w.heap.size + 1, 10, none⟩ = some (.int .u64 b.sum) := Blk.cell (W := wr) ((hbl.block _ hgb).trans HB.out) _ rfl
          have HFIN := Lib.hid (HBW.out.trans (hbl.mono HBW.out.size))
          have HXX := Lib.hid (HX.out.trans (by rw [decide_eq_true HE1.out, decide_eq_true HE2.out, Bool.true_and, Bool.true_and]))
          clear hbl HX
          unfold lateN at HXX
          go_wp2_with fail
          all_goals
            go_ret
            refine ⟨ret_bool ?_, HFIN.out⟩
            have hx := HXX.out
            rw [hx]
            clear HXX HFIN hx
            try simp only [beq_iff_eq, beq_eq_false_iff_ne, ne_eq, bne_iff_ne, bne_eq_false_iff_eq] at *
            rw [Bool.eq_iff_iff]
            simp only [decide_eq_true_iff, beq_iff_eq, Bool.false_eq_true, true_iff, false_iff]
            omega
/-- What the document's 'Same' answers. -/
theorem rsame_any (a b : K) (vi vp wi wp : Value) (w : World) (hi : Ins w vi a.ins) (hp : Prs w vp a.prs) (hi' : Ins w wi b.ins) (hp' : Prs w wp b.prs) :
    Calls Tryd.prog 21 #[.agg (pc a vi vp), .agg (pc b wi wp)] w fun e w' => e = .returned (.bool (decide (a = b))) ∧ Below w.heap.size w w' := by
  have i1 := hi
  have i2 := hp
  have i3 := hi'
  have i4 := hp'
  obtain ⟨_, _, rfl, _⟩ := hi
  obtain ⟨_, _, rfl, _⟩ := hp
  obtain ⟨_, _, rfl, _⟩ := hi'
  obtain ⟨_, _, rfl, _⟩ := hp'
  by_cases h : a.ins.length = b.ins.length ∧ a.prs.length = b.prs.length ∧ a.kind = b.kind ∧ a.player = b.player ∧ a.epoch = b.epoch ∧ a.dest = b.dest
  · rw [← h.1] at i3 ⊢
    rw [← h.2.1] at i4 ⊢
    exact rsame_go a b _ _ _ _ _ _ _ _ _ _ w ⟨rfl, h.1⟩ ⟨rfl, h.2.1⟩ h.2.2 i1 i3 i2 i4
  · rw [decide_eq_false (show ¬ a = b from fun e => h (by subst e; exact ⟨rfl, rfl, rfl, rfl, rfl, rfl⟩))]
    exact rsame_diff a b _ _ _ _ _ _ _ _ _ _ _ _ w h
end Go.Proofs.YtdgbililgkhjfaaDoor.Pk
