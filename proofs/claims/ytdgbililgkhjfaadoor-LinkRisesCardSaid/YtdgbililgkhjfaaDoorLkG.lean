/- A packet among an act's cells, a slice of acts as an argument, opened. No conditions. The law LinkPlays: walked. Conditions: the acts lie in memory; the table. The law LinkRises: walked. Conditions: the acts lie in memory; the table. -/
import Derived.Test.YtdgbililgkhjfaaDoorPkN
import Derived.Test.YtdgbililgkhjfaaDoorLkF
namespace Go.Proofs.YtdgbililgkhjfaaDoor.Lk
open Go.ChangeShapes Go.WideShapes Go.ChangeAt Go.RowKit Go.Proofs.YtdgbililgkhjfaaDoor.Pk
set_option linter.unusedVariables false
theorem kAct : Tryd.prog.cellsOf AT = 16 := by kernel_rfl
section
variable {H : Type} {enc : TypeId × Value → H} {W : World} {base : Nat} {spare : Nat → Bool} {held : Bool} {n : Nat}
set_option maxRecDepth 100000 in
/-- A packet that came in, as cells. -/
theorem open_pkc {cs : List Value} {y : DataW H × List MemPlace} (hl : cs.length = 11) (hf : DataW.trod enc Tryd.prog W base spare held n PT cs = some y) :
    ∃ (k : K) (b b' : Option Addr) (n n' c c' : Nat), cs = (pc k (.slice b n c) (.slice b' n' c')).toList ∧ k.wf ∧ (n ≤ 200 → Ins W (.slice b n c) k.ins) ∧ (n' ≤ 200 → Prs W (.slice b' n' c') k.prs) := by
  match cs, hl with
  | [c0, c1, c2, c3, c4, c5, c6, c7, c8, c9, c10], _ =>
    obtain ⟨xs, m, _, hx, _, hlen, hg⟩ := DataW.trod_struct Tryd.underlying26 hf
    match xs, hlen with
    | [y0, y1, y2, y3, y4, y5, y6, y7, y8, y9, y10], _ =>
      have g0 : DataW.trod enc Tryd.prog W base spare held m 3 ((([c0, c1, c2, c3, c4, c5, c6, c7, c8, c9, c10] : List Value).drop 0).take (Tryd.prog.cellsOf 3)) = some y0 := hg 0 _ rfl
      rw [kInt] at g0
      have f0 : DataW.trod enc Tryd.prog W base spare held m 3 [c0] = some y0 := g0
      have g1 : DataW.trod enc Tryd.prog W base spare held m 5 ((([c0, c1, c2, c3, c4, c5, c6, c7, c8, c9, c10] : List Value).drop 1).take (Tryd.prog.cellsOf 5)) = some y1 := hg 1 _ rfl
      rw [kU8] at g1
      have f1 : DataW.trod enc Tryd.prog W base spare held m 5 [c1] = some y1 := g1
      have g2 : DataW.trod enc Tryd.prog W base spare held m 22 ((([c0, c1, c2, c3, c4, c5, c6, c7, c8, c9, c10] : List Value).drop 2).take (Tryd.prog.cellsOf 22)) = some y2 := hg 2 _ rfl
      rw [kU64] at g2
      have f2 : DataW.trod enc Tryd.prog W base spare held m 22 [c2] = some y2 := g2
      have g3 : DataW.trod enc Tryd.prog W base spare held m 22 ((([c0, c1, c2, c3, c4, c5, c6, c7, c8, c9, c10] : List Value).drop 3).take (Tryd.prog.cellsOf 22)) = some y3 := hg 3 _ rfl
      rw [kU64] at g3
      have f3 : DataW.trod enc Tryd.prog W base spare held m 22 [c3] = some y3 := g3
      have g4 : DataW.trod enc Tryd.prog W base spare held m 22 ((([c0, c1, c2, c3, c4, c5, c6, c7, c8, c9, c10] : List Value).drop 4).take (Tryd.prog.cellsOf 22)) = some y4 := hg 4 _ rfl
      rw [kU64] at g4
      have f4 : DataW.trod enc Tryd.prog W base spare held m 22 [c4] = some y4 := g4
      have g5 : DataW.trod enc Tryd.prog W base spare held m 22 ((([c0, c1, c2, c3, c4, c5, c6, c7, c8, c9, c10] : List Value).drop 5).take (Tryd.prog.cellsOf 22)) = some y5 := hg 5 _ rfl
      rw [kU64] at g5
      have f5 : DataW.trod enc Tryd.prog W base spare held m 22 [c5] = some y5 := g5
      have g6 : DataW.trod enc Tryd.prog W base spare held m 22 ((([c0, c1, c2, c3, c4, c5, c6, c7, c8, c9, c10] : List Value).drop 6).take (Tryd.prog.cellsOf 22)) = some y6 := hg 6 _ rfl
      rw [kU64] at g6
      have f6 : DataW.trod enc Tryd.prog W base spare held m 22 [c6] = some y6 := g6
      have g7 : DataW.trod enc Tryd.prog W base spare held m 23 ((([c0, c1, c2, c3, c4, c5, c6, c7, c8, c9, c10] : List Value).drop 7).take (Tryd.prog.cellsOf 23)) = some y7 := hg 7 _ rfl
      rw [kIns] at g7
      have f7 : DataW.trod enc Tryd.prog W base spare held m 23 [c7] = some y7 := g7
      have g8 : DataW.trod enc Tryd.prog W base spare held m 24 ((([c0, c1, c2, c3, c4, c5, c6, c7, c8, c9, c10] : List Value).drop 8).take (Tryd.prog.cellsOf 24)) = some y8 := hg 8 _ rfl
      rw [kPrs] at g8
      have f8 : DataW.trod enc Tryd.prog W base spare held m 24 [c8] = some y8 := g8
      have g9 : DataW.trod enc Tryd.prog W base spare held m 22 ((([c0, c1, c2, c3, c4, c5, c6, c7, c8, c9, c10] : List Value).drop 9).take (Tryd.prog.cellsOf 22)) = some y9 := hg 9 _ rfl
      rw [kU64] at g9
      have f9 : DataW.trod enc Tryd.prog W base spare held m 22 [c9] = some y9 := g9
      have g10 : DataW.trod enc Tryd.prog W base spare held m 22 ((([c0, c1, c2, c3, c4, c5, c6, c7, c8, c9, c10] : List Value).drop 10).take (Tryd.prog.cellsOf 22)) = some y10 := hg 10 _ rfl
      rw [kU64] at g10
      have f10 : DataW.trod enc Tryd.prog W base spare held m 22 [c10] = some y10 := g10
      obtain ⟨a0, rfl, l0⟩ := cell_int f0
      obtain ⟨a1, rfl, l1⟩ := cell_u8 f1
      obtain ⟨a2, rfl, l2⟩ := cell_u64 f2
      obtain ⟨a3, rfl, l3⟩ := cell_u64 f3
      obtain ⟨a4, rfl, l4⟩ := cell_u64 f4
      obtain ⟨a5, rfl, l5⟩ := cell_u64 f5
      obtain ⟨a6, rfl, l6⟩ := cell_u64 f6
      obtain ⟨b7, n7, e7, rfl⟩ : ∃ b n e, c7 = .slice b n e := by
        rcases DataW.trod_slice Tryd.underlying23 f7 with ⟨e, _⟩ | ⟨a, len, cap, _, _, _, _, e, _⟩
        · cases e; exact ⟨_, _, _, rfl⟩
        · cases e; exact ⟨_, _, _, rfl⟩
      obtain ⟨m7, s7, l7⟩ := open_ins f7
      obtain ⟨b8, n8, e8, rfl⟩ : ∃ b n e, c8 = .slice b n e := by
        rcases DataW.trod_slice Tryd.underlying24 f8 with ⟨e, _⟩ | ⟨a, len, cap, _, _, _, _, e, _⟩
        · cases e; exact ⟨_, _, _, rfl⟩
        · cases e; exact ⟨_, _, _, rfl⟩
      obtain ⟨m8, s8, l8⟩ := open_prs f8
      obtain ⟨a9, rfl, l9⟩ := cell_u64 f9
      obtain ⟨a10, rfl, l10⟩ := cell_u64 f10
      exact ⟨⟨a0, a1, a2, a3, a4, a5, a6, s7, s8, a9, a10⟩, b7, b8, n7, n8, e7, e8, rfl, ⟨l0, l1, l2, l3, l4, l5, l6, l9, l10⟩, l7, l8⟩
set_option maxRecDepth 100000 in
/-- An act that came in, as cells. -/
theorem open_act {cs : List Value} {y : DataW H × List MemPlace} (hl : cs.length = 16) (hf : DataW.trod enc Tryd.prog W base spare held n AT cs = some y) : ∃ x : Ac, cs = x.cells.toList ∧ x.ok W := by
  obtain ⟨xs, m, _, hx, _, hlen, hg⟩ := DataW.trod_struct Tryd.underlying59 hf
  match xs, hlen with
  | [y0, y1, y2, y3, y4, y5], _ =>
    have g0 : DataW.trod enc Tryd.prog W base spare held m 5 ((cs.drop 0).take (Tryd.prog.cellsOf 5)) = some y0 := hg 0 _ rfl
    have g1 : DataW.trod enc Tryd.prog W base spare held m PT ((cs.drop 1).take (Tryd.prog.cellsOf PT)) = some y1 := hg 1 _ rfl
    have g2 : DataW.trod enc Tryd.prog W base spare held m 22 ((cs.drop 12).take (Tryd.prog.cellsOf 22)) = some y2 := hg 2 _ rfl
    have g3 : DataW.trod enc Tryd.prog W base spare held m 22 ((cs.drop 13).take (Tryd.prog.cellsOf 22)) = some y3 := hg 3 _ rfl
    have g4 : DataW.trod enc Tryd.prog W base spare held m 22 ((cs.drop 14).take (Tryd.prog.cellsOf 22)) = some y4 := hg 4 _ rfl
    have g5 : DataW.trod enc Tryd.prog W base spare held m 3 ((cs.drop 15).take (Tryd.prog.cellsOf 3)) = some y5 := hg 5 _ rfl
    rw [kU8] at g0
    rw [kPk] at g1
    rw [kU64] at g2 g3 g4
    rw [kInt] at g5
    obtain ⟨k, b, b', ni, np, ci, cp, hk, hw, hi, hp⟩ := open_pkc (by rw [List.length_take, List.length_drop, hl]; rfl) g1
    match cs, hl, g0, g1, g2, g3, g4, g5, hk with
    | [c0, c1, c2, c3, c4, c5, c6, c7, c8, c9, c10, c11, c12, c13, c14, c15], _, g0, g1, g2, g3, g4, g5, hk =>
      obtain ⟨a0, rfl, l0⟩ := cell_u8 (show DataW.trod enc Tryd.prog W base spare held m 5 [c0] = some y0 from g0)
      obtain ⟨a2, rfl, l2⟩ := cell_u64 (show DataW.trod enc Tryd.prog W base spare held m 22 [c12] = some y2 from g2)
      obtain ⟨a3, rfl, l3⟩ := cell_u64 (show DataW.trod enc Tryd.prog W base spare held m 22 [c13] = some y3 from g3)
      obtain ⟨a4, rfl, l4⟩ := cell_u64 (show DataW.trod enc Tryd.prog W base spare held m 22 [c14] = some y4 from g4)
      obtain ⟨a5, rfl, l5⟩ := cell_int (show DataW.trod enc Tryd.prog W base spare held m 3 [c15] = some y5 from g5)
      have hk' : [c1, c2, c3, c4, c5, c6, c7, c8, c9, c10, c11] = (pc k (.slice b ni ci) (.slice b' np cp)).toList := hk
      simp only [pc, List.cons.injEq] at hk'
      obtain ⟨rfl, rfl, rfl, rfl, rfl, rfl, rfl, rfl, rfl, rfl, rfl, _⟩ := hk'
      exact ⟨⟨a0, k, b, ni, ci, b', np, cp, a2, a3, a4, a5⟩, rfl, ⟨l0, hw, l2, l3, l4, l5, hi, hp⟩⟩
set_option maxRecDepth 100000 in
/-- A slice of acts that came in. -/
theorem open_acts {r0 : Reach} {b0 : Nat} {v : Value} {d : DataW H} {p : List MemPlace} (hv : Value.okWide Tryd.prog W r0 b0 54 v) (h : DataW.Trod enc Tryd.prog W base spare held 54 v d p) : ∃ xs : List Ac, Acts W v xs := by
  obtain ⟨fuel, hf⟩ := h
  obtain ⟨b, k, c, rfl⟩ := okWide_slice Tryd.underlying54 hv
  have hf' : DataW.trod enc Tryd.prog W base spare held fuel 54 [.slice b k c] = some (d, p) := hf
  rcases DataW.trod_slice Tryd.underlying54 hf' with ⟨e, _⟩ | ⟨a, len, cap, elems, rest, m, _, e, hx, _, h1, h2, h3, hg, _⟩
  · cases e
    exact ⟨[], none, 0, rfl, Nat.zero_le _, fun i hi => absurd hi (Nat.not_lt_zero _)⟩
  · cases e
    rw [kAct] at hg
    have key : ∀ i, i < k → ∃ x : Ac, x.ok W ∧ ∀ j u, x.cells.toList[j]? = some u → W.cell? ((a.add (i * 16)).add j) = some u := fun i hi => by
      have hh := hg i hi
      have he : elems[i]? = some elems[i] := List.getElem?_eq_getElem (by omega)
      rw [he] at hh
      obtain ⟨cs, hc, ht⟩ := Option.bind_eq_some_iff.1 hh
      obtain ⟨_, hl, hcc⟩ := World.cells?_some hc
      obtain ⟨x, rfl, hok⟩ := open_act hl ht
      refine ⟨x, hok, fun j u hu => ?_⟩
      have hj : j < 16 := (List.getElem?_eq_some_iff.1 hu).1
      exact (hcc j hj).trans hu
    have hch : ∃ f : Nat → Ac, ∀ i, i < k → (f i).ok W ∧ ∀ j u, (f i).cells.toList[j]? = some u → W.cell? ((a.add (i * 16)).add j) = some u :=
      ⟨fun i => if hi : i < k then (key i hi).choose else ⟨0, K.zero, none, 0, 0, none, 0, 0, 0, 0, 0, 0⟩, fun i hi => by simp only [hi, dif_pos]; exact (key i hi).choose_spec⟩
    obtain ⟨f, hf⟩ := hch
    refine ⟨(List.range k).map f, some a, c, by simp, by rw [List.length_map, List.length_range]; exact Nat.le_trans h1 h2, fun i hi => ?_⟩
    have hik : i < k := by simpa using hi
    obtain ⟨hok, hcell⟩ := hf i hik
    have h00 := (hf 0 (by omega)).2 0 (.int .u8 (f 0).what) rfl
    have hs := World.cell?_spot h00
    have ha : a = ⟨a.block, a.off, none⟩ := by
      obtain ⟨b, o, s⟩ := a
      cases s with
      | none => rfl
      | some s => simp [Addr.add] at hs
    have hlt : a.block < W.heap.size := by
      have := World.block_lt_of_cell? W _ h00
      rw [ha, add_at, add_at] at this
      exact this
    refine ⟨a.block, a.off, by rw [← ha], hlt, fun j u hu => ?_, ?_⟩
    · simp only [List.getElem_map, List.getElem_range] at hu
      have hc := hcell j u hu
      rw [ha, add_at, add_at] at hc
      exact hc
    · simp only [List.getElem_map, List.getElem_range]
      exact hok
set_option maxRecDepth 100000 in
/-- Two numbers that came in. -/
theorem open_two {r0 : Reach} {b0 : Nat} {v : Value} {d : DataW H} {p : List MemPlace} (hv : Value.okWide Tryd.prog W r0 b0 61 v) (h : DataW.Trod enc Tryd.prog W base spare held 61 v d p) :
    ∃ a b : Int, v = .agg #[.int .i64 a, .int .i64 b] ∧ (-9223372036854775808 ≤ a ∧ a ≤ 9223372036854775807) ∧ (-9223372036854775808 ≤ b ∧ b ≤ 9223372036854775807) := by
  simp only [Value.okWide, Tryd.underlying61] at hv
  obtain ⟨cs, rfl, hsz, _⟩ := hv
  rw [show Tryd.prog.cellsOf 61 = 2 by kernel_rfl] at hsz
  obtain ⟨fuel, hf⟩ := h
  obtain ⟨xs, m, _, _, _, hlen, hg⟩ := DataW.trod_array Tryd.underlying61 hf
  rw [kInt] at hg
  obtain ⟨l⟩ := cs
  match l, hsz, xs, hlen with
  | [c, d], _, [y0, y1], _ =>
    obtain ⟨a, rfl, ha⟩ := cell_int (show DataW.trod enc Tryd.prog W base spare held m 3 [c] = some y0 from hg 0 (by decide))
    obtain ⟨b, rfl, hb⟩ := cell_int (show DataW.trod enc Tryd.prog W base spare held m 3 [d] = some y1 from hg 1 (by decide))
    exact ⟨a, b, rfl, ha, hb⟩
end
end Go.Proofs.YtdgbililgkhjfaaDoor.Lk
namespace Go.Proofs.YtdgbililgkhjfaaDoor.Lk
open Go.RowKit Go.Proofs.YtdgbililgkhjfaaDoor.Crc Go.Proofs.YtdgbililgkhjfaaDoor.Codec Go.Proofs.YtdgbililgkhjfaaDoor.Pk Go.Proofs.YtdgbililgkhjfaaDoor.CrcWalk Go.Proofs.YtdgbililgkhjfaaDoor.Frame
set_option linter.unusedVariables false
set_option linter.unusedSimpArgs false
abbrev WT := 61
theorem exec_load_act {op : Oper} {ρ : Operand → Value} {w : World} (x : Operand) (b o : Nat) (y : Ac) (hc : w.rangeAt b o y.cells.toList) (ho : op.op = .load AT x) (hx : ρ x = .pointer (some ⟨b, o, none⟩)) :
    (execOp ρ op).run Tryd.prog w = .ok (.value (.agg y.cells)) w := by
  unfold execOp
  simp only [ho, hx, Instr.loadAt, Instr.sureAddr, Sem.run_bind, Sem.run_pure, Result.andThen_ok, run_loadVar_mid w b o AT y.cells.toList _ hc Tryd.underlying59 rfl (by kernel_rfl)]
theorem wp_value_at {P : Program} {Q : Exit → Act → World → Prop} {o : Oper} {a : Act} {w w' : World} {v : Value} {K : Act → World → Prop} (d : Option Tmp) (hd : o.dst = d) (h : (execOp a.eval o).run P w = .ok (.value v) w') (hK : K (a.put d v) w') : o.wp P a w K Q := by
  subst hd
  exact Draw.wp_value h hK
theorem runs_at {P : Program} {Q : Exit → Act → World → Prop} {o : Oper} {a : Act} {w : World} {R : World → Value → Prop} {K : Act → World → Prop} (d : Option Tmp) (hd : o.dst = d) (h : Draw.Runs P o a.eval w R) (hK : ∀ w' v, R w' v → K (a.put d v) w') : o.wp P a w K Q := by
  subst hd
  exact Draw.Runs.wp h hK
set_option maxRecDepth 100000 in
set_option maxHeartbeats 4000000 in
/-- P23.1 to P23.4: the law LinkPlays. -/
theorem plays_law (a0 a1 : Int) (e : Nat) (v : Value) (xs : List Ac) (w : World) (he : e < 18446744073709551616) (h0 : -9223372036854775808 ≤ a0 ∧ a0 ≤ 9223372036854775807) (h1 : -9223372036854775808 ≤ a1 ∧ a1 ≤ 9223372036854775807) (hx : Acts w v xs) (hT : Tab w) :
    Calls Tryd.prog 10 #[.agg #[.int .i64 a0, .int .i64 a1], .int .u64 e, v] w fun r w' => r = .returned (.bool true) ∧ Below w.heap.size w w' := by
  obtain ⟨p, hp⟩ : ∃ p : Nat, (p : Int) = min (max a0 0) 9 := ⟨(min (max a0 0) 9).toNat, by omega⟩
  have hp9 : p ≤ 9 := by omega
  have HA := Lib.hid (fun W (h : Below w.heap.size w W) => awake_any W (tab_below hT h))
  have HP := Lib.hid hp
  have HTT := Lib.hid hT
  have hb0 : Blk (w.alloc (.cells #[.int .i64 a0, .int .i64 a1] WT)) w.heap.size #[.int .i64 a0, .int .i64 a1] WT := heap_alloc_new w _
  have hB0 := bel_new w (.cells #[.int .i64 a0, .int .i64 a1] WT)
  have c0 : (w.alloc (.cells #[.int .i64 a0, .int .i64 a1] WT)).cell? ⟨w.heap.size, 0, none⟩ = some (.int .i64 a0) := hb0.cell _ rfl
  have HX := Lib.hid hx
  clear hT hp hx
  go_enter Tryd.func10, Tryd.ntmps10
  go_upto_region 1 with fail
  generalize w.alloc (.cells #[.int .i64 a0, .int .i64 a1] WT) = w1 at *
  go_cut [7] (fun z wx => z = .int .u8 p ∧ w1 = wx)
  case first =>
    go_wp2
    all_goals
      go_meet
      refine ⟨?_, rfl⟩
      have := HP.out
      first | (exfalso; omega) | (congr 1; omega) | (congr 1; rw [IntKind.wrap_u8]; omega)
  case rest =>
  obtain ⟨rfl, rfl⟩ := hcut
  clear c0
  have hlt1 := hb0.lt
  have c1 : w1.cell? ⟨w.heap.size, 1, none⟩ = some (.int .i64 a1) := hb0.cell _ rfl
  by_cases hm : mayL p e a1
  case neg =>
    have HN := Lib.hid (fun W => new_no p e a1 W hm)
    have HM := Lib.hid (fun W => rmayl_any p e a1 W)
    rw [decide_eq_false hm] at HM
    clear hm hb0 hlt1
    go_wp2_with fail
    refine (HN.out _).mono ?_
    rintro r w' ⟨rfl, rfl⟩
    go_wp2_with fail
    refine (HM.out _).mono ?_
    rintro r w' ⟨rfl, rfl⟩
    go_wp2_with fail
    refine (HA.out _ hB0).mono ?_
    rintro r w2 ⟨rfl, hb⟩
    have hB2 := hB0.trans (hb.mono hB0.size)
    clear hb hB0
    go_wp2
    go_ret
    exact ⟨rfl, hB2⟩
  case pos =>
  obtain ⟨hm1, hm2, hm3, hm4⟩ := id hm
  obtain ⟨n, rfl⟩ : ∃ n : Nat, a1 = n := ⟨a1.toNat, by omega⟩
  have HN := Lib.hid (fun W => new_yes p e n W hm he)
  have HM := Lib.hid (fun W => rmayl_any p e n W)
  rw [decide_eq_true hm] at HM
  have HRN := Lib.hid (fun W => rnew_any p e n W (by omega))
  have hwf : (L.make p e n).wf := L.make_wf (by omega) he (by omega) (by omega)
  have HWF := Lib.hid hwf
  clear hm hm1 hm2 hm3 hm4 hwf
  go_wp2_with fail
  refine (HN.out _).mono ?_
  rintro r w2 ⟨rfl, hbg, hb⟩
  have hB2 := hB0.trans (hb.mono hB0.size)
  have hw2 : Blk w2 w.heap.size #[.int .i64 a0, .int .i64 n] WT := (hb.block _ hlt1).trans hb0
  have c1' : w2.cell? ⟨w.heap.size, 1, none⟩ = some (.int .i64 n) := hw2.cell _ rfl
  have hgs : w.heap.size < w1.heap.size := hlt1
  clear hb hb0 c1
  go_wp2_with fail
  refine (HM.out _).mono ?_
  rintro r w' ⟨rfl, rfl⟩
  obtain ⟨b, c, rfl, hlen, hcell⟩ := id HX.out
  have hX2 : Acts w2 (.slice b xs.length c) xs := ⟨b, c, rfl, hlen, fun i hi => by
    obtain ⟨g, o, h1, h2, h3, h4⟩ := hcell i hi
    exact ⟨g, o, h1, Nat.lt_of_lt_of_le h2 hB2.size, range_below h3 h2 hB2, ⟨h4.what, h4.k, h4.now, h4.a, h4.b, h4.n, fun q => (h4.ins q).below hB2, fun q => (h4.prs q).below hB2⟩⟩⟩
  have HFW := Lib.hid (fewl_any _ xs w2 hX2)
  have HCL := Lib.hid hcell
  unfold maxLen at hlen
  clear hX2 hcell
  go_wp2_with fail
  refine HFW.out.mono ?_
  rintro r w' ⟨rfl, rfl⟩
  by_cases hf : xs.length ≤ 80 ∧ ∀ x ∈ xs, x.few
  case neg =>
    rw [decide_eq_false hf]
    clear hf
    go_wp2_with fail
    refine (HA.out _ hB2).mono ?_
    rintro r w3 ⟨rfl, hb⟩
    have hB3 := hB2.trans (hb.mono hB2.size)
    clear hb hB2
    go_wp2
    go_ret
    exact ⟨rfl, hB3⟩
  case pos =>
  rw [decide_eq_true hf]
  have hl80 := hf.1
  have HFE := Lib.hid hf.2
  clear hf
  go_wp2_with fail
  refine (HRN.out _).mono ?_
  rintro r w3 ⟨rfl, hbh, hb⟩
  have hd3 : Dv w w1.heap.size w2.heap.size (L.make p e n) w3 := ⟨(hb.block _ hbg.lt).trans hbg, hbh, hB2.trans (hb.mono hB2.size), Nat.le_of_lt hgs, hB2.size, by have := hbg.lt; omega⟩
  clear hb hbg hbh hB2 hw2 c1' hB0 HN HM HRN HFW
  generalize hgg : w1.heap.size = g at *
  generalize hhh : w2.heap.size = h at *
  clear hgg hhh
  go_wp2_with fail
  go_loopw [10] (fun i wr => ∃ (j : Nat) (l : L), j ≤ xs.length ∧ i = .int .i64 j ∧ l.wf ∧ Dv w g h l wr) (fun i _ => xs.length - (intOf i).toNat)
  case atStart => exact ⟨0, _, Nat.zero_le _, rfl, HWF.out, hd3⟩
  case round =>
    obtain ⟨j, l, hj, rfl, hl, hd⟩ := hrel
    by_cases hlt : j < xs.length
    · obtain ⟨ga, oa, rfl, ha, hr, hok⟩ := HCL.out j hlt
      have hfe := HFE.out xs[j] (List.getElem_mem _)
      generalize xs[j] = x at *
      have hl' := L.act_wf hl hok
      have HON := Lib.hid (fun V (d : Dv w g h l V) => one_any w g h l x V d hl hok hfe HTT.out)
      obtain ⟨l', hle⟩ : ∃ l', l' = l.act x := ⟨_, rfl⟩
      rw [← hle] at HON hl'
      have HL' := Lib.hid hl'
      have HR := Lib.hid (fun V (d : Dv w g h l V) => range_below hr ha (⟨d.bel.os, d.bel.tape, d.bel.output, d.bel.size, d.bel.block⟩ : Below w.heap.size w V))
      have HEP := Lib.hid (fun V (d : Dv w g h l' V) => epoch_any l' g V d.a hl')
      have HCO := Lib.hid (fun V (d : Dv w g h l' V) => count_any l' g V d.a hl')
      have HOW := Lib.hid (fun V (d : Dv w g h l' V) => owned_any l' g V d.a hl')
      have HME := Lib.hid (fun V (d : Dv w g h l' V) => met_any l' g V d.a hl')
      have HD := Lib.hid hd
      have e1 : ((l'.epoch : Int) != (l'.epoch : Int)) = false := by simp
      have e2 : ((l'.count : Int) != (l'.count : Int)) = false := by simp
      have e3 : ((l'.owned : Int) != (l'.owned : Int)) = false := by simp
      have e4 : (l'.met != l'.met) = false := by simp
      clear hl hd hok hfe hl' hle hr
      go_wp2_with fail
      refine Draw.wp_region_prefix 6 (Dv w g h l) (fun W W' => Below W.heap.size W W') (fun i W vv => match i with
          | 0 => vv = .pointer (some ⟨g, 0, none⟩)
          | 1 => vv = .pointer (some ⟨h, 0, none⟩)
          | 2 => vv = (.slice (some ⟨ga, oa, none⟩) xs.length c)
          | 3 => vv = .int .i64 j
          | 4 => vv = .pointer (some ⟨ga, oa + j * 16, none⟩)
          | _ => vv = .agg x.cells) (by kernel_rfl) (by kernel_rfl) (by decide) rfl (by decide) (by decide) (by decide) ?_ (HD.out.call (Below.refl _ _).drew) ?_ [49, 50, 51, 52, 53, 54] (by rfl) 38 (by rfl) ?_
      · intro i W W' vv he hf
        exact hf
      · refine ⟨?_, ?_, ?_, ?_, ?_, ?_, trivial⟩
        all_goals intro ρ W hJ hc hf hKn
        · refine Draw.Goes.plain rfl ?_
          exact Draw.Runs.value (w' := W) (v := ρ (.tmp 8)) rfl ⟨hJ, Below.refl _ _, hKn.1.2 8 rfl⟩
        · refine Draw.Goes.plain rfl ?_
          exact Draw.Runs.value (w' := W) (v := ρ (.tmp 9)) rfl ⟨hJ, Below.refl _ _, hKn.1.2 9 rfl⟩
        · refine Draw.Goes.plain rfl ?_
          exact Draw.Runs.value (w' := W) (v := ρ (.tmp 2)) rfl ⟨hJ, Below.refl _ _, hKn.1.2 2 rfl⟩
        · refine Draw.Goes.plain rfl ?_
          exact Draw.Runs.value (w' := W) (v := ρ (.tmp 10)) rfl ⟨hJ, Below.refl _ _, hKn.1.2 10 rfl⟩
        · refine Draw.Goes.plain rfl ?_
          have h0 : ρ (.tmp 51) = (.slice (some ⟨ga, oa, none⟩) xs.length c) := hKn.1.get 2 51 rfl rfl
          have h1 : ρ (.tmp 52) = .int .i64 j := hKn.1.get 3 52 rfl rfl
          refine Draw.Runs.value (w' := W) (v := .pointer (some ⟨ga, oa + j * 16, none⟩)) ?_ ⟨hJ, Below.refl _ _, rfl⟩
          simp only [execOp]; go_simp
        · refine Draw.Goes.plain rfl ?_
          have h0 : ρ (.tmp 53) = .pointer (some ⟨ga, oa + j * 16, none⟩) := hKn.1.get 4 53 rfl rfl
          exact Draw.Runs.value (w' := W) (v := .agg x.cells) (exec_load_act _ ga _ x (HR.out W hJ) rfl h0) ⟨hJ, Below.refl _ _, rfl⟩
      · intro u W hJ hf
        have r49 : u 49 = .pointer (some ⟨g, 0, none⟩) := hf 0 _ 49 (by decide) rfl rfl
        have r50 : u 50 = .pointer (some ⟨h, 0, none⟩) := hf 1 _ 50 (by decide) rfl rfl
        have r54 : u 54 = .agg x.cells := hf 5 _ 54 (by decide) rfl rfl
        simp only [List.foldl_cons, List.foldl_nil, List.setIfInBounds_toArray, List.set_cons_succ, List.set_cons_zero, r49, r50, r54]
        have hJ1 := hJ
        clear hJ hf
        refine Draw.wpAny_one (i := 6) (by kernel_rfl) rfl rfl ?_
        refine runs_at (some 55) rfl (R := fun V z => z = .bool true ∧ Dv w g h l' V) (Draw.Runs.enter (f := 37) (args := #[.pointer (some ⟨g, 0, none⟩), .pointer (some ⟨h, 0, none⟩), .agg x.cells]) (by simp only [execOp]; go_simp) ((HON.out W hJ1).mono fun e W' ⟨he, hb⟩ => ⟨_, he, rfl, hb⟩)) ?_
        rintro W2 z ⟨rfl, hd2⟩
        refine Draw.wpAny_one (i := 7) (by kernel_rfl) rfl rfl ?_
        refine wp_value_at (some 56) rfl (v := .bool false) (w' := W2) (by simp only [execOp]; go_simp) ?_
        refine Draw.wpAny_one (i := 8) (by kernel_rfl) rfl rfl ?_
        refine wp_value_at (some 57) rfl (v := .bool false) (w' := W2) (by simp only [execOp]; go_simp) ?_
        have hD2 := Lib.hid hd2
        clear hJ1 hd2
        simp only [Act.put, List.setIfInBounds_toArray, List.set_cons_succ, List.set_cons_zero]
        refine Draw.wpAny_last 9 (Dv w g h l') (fun W W' => Below W.heap.size W W') (fun i W vv => match i with
            | 9 => vv = .pointer (some ⟨g, 0, none⟩)
            | 10 => vv = .int .u64 l'.epoch
            | 11 => vv = .pointer (some ⟨h, 0, none⟩)
            | 12 => vv = .pointer (some ⟨h, 0, none⟩)
            | 13 => vv = .pointer (some ⟨h, 3, none⟩)
            | 14 => vv = .int .u64 l'.epoch
            | 15 => vv = .bool false
            | 16 => vv = .bool false
            | 17 => vv = .bool false
            | 18 => vv = .pointer (some ⟨g, 0, none⟩)
            | 19 => vv = .int .u64 l'.count
            | 20 => vv = .pointer (some ⟨h, 0, none⟩)
            | 21 => vv = .pointer (some ⟨h, 0, none⟩)
            | 22 => vv = .pointer (some ⟨h, 4, none⟩)
            | 23 => vv = .int .u64 l'.count
            | 24 => vv = .bool false
            | 25 => vv = .bool false
            | 26 => vv = .bool false
            | 27 => vv = .pointer (some ⟨g, 0, none⟩)
            | 28 => vv = .int .u64 l'.owned
            | 29 => vv = .pointer (some ⟨h, 0, none⟩)
            | 30 => vv = .pointer (some ⟨h, 0, none⟩)
            | 31 => vv = .pointer (some ⟨h, 5, none⟩)
            | 32 => vv = .int .u64 l'.owned
            | 33 => vv = .bool false
            | 34 => vv = .bool false
            | 35 => vv = .bool false
            | 36 => vv = .pointer (some ⟨g, 0, none⟩)
            | 37 => vv = .bool l'.met
            | 38 => vv = .pointer (some ⟨h, 0, none⟩)
            | 39 => vv = .pointer (some ⟨h, 0, none⟩)
            | 40 => vv = .pointer (some ⟨h, 6, none⟩)
            | 41 => vv = .bool l'.met
            | 42 => vv = .bool false
            | _ => vv = .bool false) (by kernel_rfl) (by decide) rfl (by decide) ?_ hD2.out [58, 59, 60, 61, 62, 63, 64, 65, 66, 67, 68, 69, 70, 71, 72, 73, 74, 75, 76, 77, 78, 79, 80, 81, 82, 83, 84, 85, 86, 87, 88, 89, 90, 91, 92] (by rfl) ?_ 35 (by rfl) ?_
        · intro i W W' vv he hf
          exact hf
        · refine ⟨?_, ?_, ?_, ?_, ?_, ?_, ?_, ?_, ?_, ?_, ?_, ?_, ?_, ?_, ?_, ?_, ?_, ?_, ?_, ?_, ?_, ?_, ?_, ?_, ?_, ?_, ?_, ?_, ?_, ?_, ?_, ?_, ?_, ?_, ?_, trivial⟩
          all_goals intro ρ W hJ hc hf hKn
          · refine Draw.Goes.yes 8 false 57 rfl rfl (hKn.2 57 rfl) ?_
            exact Draw.Runs.value (w' := W) (v := ρ (.tmp 8)) rfl ⟨hJ, Below.refl _ _, hKn.2 8 rfl⟩
          · refine Draw.Goes.yes 8 false 57 rfl rfl (hKn.2 57 rfl) ?_
            have h0 : ρ (.tmp 58) = .pointer (some ⟨g, 0, none⟩) := hKn.get 9 58 rfl rfl rfl
            refine Draw.Runs.enter (f := 30) (args := #[.pointer (some ⟨g, 0, none⟩)]) ?_ ((HEP.out W hJ).mono fun e W' ⟨he, hb⟩ => ⟨_, he, by subst hb; exact hJ, by subst hb; exact Below.refl _ _, rfl⟩)
            simp only [execOp]; go_simp
          · refine Draw.Goes.yes 8 false 57 rfl rfl (hKn.2 57 rfl) ?_
            exact Draw.Runs.value (w' := W) (v := ρ (.tmp 9)) rfl ⟨hJ, Below.refl _ _, hKn.2 9 rfl⟩
          · refine Draw.Goes.yes 8 false 57 rfl rfl (hKn.2 57 rfl) ?_
            have h0 : ρ (.tmp 60) = .pointer (some ⟨h, 0, none⟩) := hKn.get 11 60 rfl rfl rfl
            refine Draw.Runs.value (w' := W) (v := .pointer (some ⟨h, 0, none⟩)) ?_ ⟨hJ, Below.refl _ _, rfl⟩
            simp only [execOp]; go_simp
          · refine Draw.Goes.yes 8 false 57 rfl rfl (hKn.2 57 rfl) ?_
            have h0 : ρ (.tmp 61) = .pointer (some ⟨h, 0, none⟩) := hKn.get 12 61 rfl rfl rfl
            refine Draw.Runs.value (w' := W) (v := .pointer (some ⟨h, 3, none⟩)) ?_ ⟨hJ, Below.refl _ _, rfl⟩
            simp only [execOp]; go_simp
          · refine Draw.Goes.yes 8 false 57 rfl rfl (hKn.2 57 rfl) ?_
            have h0 : ρ (.tmp 62) = .pointer (some ⟨h, 3, none⟩) := hKn.get 13 62 rfl rfl rfl
            have c : W.cell? ⟨h, 3, none⟩ = some (.int .u64 l'.epoch) := hJ.b.cell _ rfl
            refine Draw.Runs.value (w' := W) (v := .int .u64 l'.epoch) ?_ ⟨hJ, Below.refl _ _, rfl⟩
            simp only [execOp]; go_simp
          · refine Draw.Goes.yes 8 false 57 rfl rfl (hKn.2 57 rfl) ?_
            have h0 : ρ (.tmp 59) = .int .u64 l'.epoch := hKn.get 10 59 rfl rfl rfl
            have h1 : ρ (.tmp 63) = .int .u64 l'.epoch := hKn.get 14 63 rfl rfl rfl
            refine Draw.Runs.value (w' := W) (v := .bool false) ?_ ⟨hJ, Below.refl _ _, rfl⟩
            simp only [execOp]; go_simp
          · refine Draw.Goes.plain rfl ?_
            have h0 : ρ (.tmp 57) = .bool false := hKn.2 57 rfl
            have h1 : ρ (.tmp 64) = .bool false := hKn.get 15 64 rfl rfl rfl
            refine Draw.Runs.value (w' := W) (v := .bool false) ?_ ⟨hJ, Below.refl _ _, rfl⟩
            simp only [execOp]; go_simp
          · refine Draw.Goes.plain rfl ?_
            exact Draw.Runs.value (w' := W) (v := ρ (.tmp 65)) rfl ⟨hJ, Below.refl _ _, hKn.get 16 65 rfl rfl rfl⟩
          · refine Draw.Goes.yes 17 false 66 rfl rfl (hKn.get 17 66 rfl rfl rfl) ?_
            exact Draw.Runs.value (w' := W) (v := ρ (.tmp 8)) rfl ⟨hJ, Below.refl _ _, hKn.2 8 rfl⟩
          · refine Draw.Goes.yes 17 false 66 rfl rfl (hKn.get 17 66 rfl rfl rfl) ?_
            have h0 : ρ (.tmp 67) = .pointer (some ⟨g, 0, none⟩) := hKn.get 18 67 rfl rfl rfl
            refine Draw.Runs.enter (f := 31) (args := #[.pointer (some ⟨g, 0, none⟩)]) ?_ ((HCO.out W hJ).mono fun e W' ⟨he, hb⟩ => ⟨_, he, by subst hb; exact hJ, by subst hb; exact Below.refl _ _, rfl⟩)
            simp only [execOp]; go_simp
          · refine Draw.Goes.yes 17 false 66 rfl rfl (hKn.get 17 66 rfl rfl rfl) ?_
            exact Draw.Runs.value (w' := W) (v := ρ (.tmp 9)) rfl ⟨hJ, Below.refl _ _, hKn.2 9 rfl⟩
          · refine Draw.Goes.yes 17 false 66 rfl rfl (hKn.get 17 66 rfl rfl rfl) ?_
            have h0 : ρ (.tmp 69) = .pointer (some ⟨h, 0, none⟩) := hKn.get 20 69 rfl rfl rfl
            refine Draw.Runs.value (w' := W) (v := .pointer (some ⟨h, 0, none⟩)) ?_ ⟨hJ, Below.refl _ _, rfl⟩
            simp only [execOp]; go_simp
          · refine Draw.Goes.yes 17 false 66 rfl rfl (hKn.get 17 66 rfl rfl rfl) ?_
            have h0 : ρ (.tmp 70) = .pointer (some ⟨h, 0, none⟩) := hKn.get 21 70 rfl rfl rfl
            refine Draw.Runs.value (w' := W) (v := .pointer (some ⟨h, 4, none⟩)) ?_ ⟨hJ, Below.refl _ _, rfl⟩
            simp only [execOp]; go_simp
          · refine Draw.Goes.yes 17 false 66 rfl rfl (hKn.get 17 66 rfl rfl rfl) ?_
            have h0 : ρ (.tmp 71) = .pointer (some ⟨h, 4, none⟩) := hKn.get 22 71 rfl rfl rfl
            have c : W.cell? ⟨h, 4, none⟩ = some (.int .u64 l'.count) := hJ.b.cell _ rfl
            refine Draw.Runs.value (w' := W) (v := .int .u64 l'.count) ?_ ⟨hJ, Below.refl _ _, rfl⟩
            simp only [execOp]; go_simp
          · refine Draw.Goes.yes 17 false 66 rfl rfl (hKn.get 17 66 rfl rfl rfl) ?_
            have h0 : ρ (.tmp 68) = .int .u64 l'.count := hKn.get 19 68 rfl rfl rfl
            have h1 : ρ (.tmp 72) = .int .u64 l'.count := hKn.get 23 72 rfl rfl rfl
            refine Draw.Runs.value (w' := W) (v := .bool false) ?_ ⟨hJ, Below.refl _ _, rfl⟩
            simp only [execOp]; go_simp
          · refine Draw.Goes.plain rfl ?_
            have h0 : ρ (.tmp 66) = .bool false := hKn.get 17 66 rfl rfl rfl
            have h1 : ρ (.tmp 73) = .bool false := hKn.get 24 73 rfl rfl rfl
            refine Draw.Runs.value (w' := W) (v := .bool false) ?_ ⟨hJ, Below.refl _ _, rfl⟩
            simp only [execOp]; go_simp
          · refine Draw.Goes.plain rfl ?_
            exact Draw.Runs.value (w' := W) (v := ρ (.tmp 74)) rfl ⟨hJ, Below.refl _ _, hKn.get 25 74 rfl rfl rfl⟩
          · refine Draw.Goes.yes 26 false 75 rfl rfl (hKn.get 26 75 rfl rfl rfl) ?_
            exact Draw.Runs.value (w' := W) (v := ρ (.tmp 8)) rfl ⟨hJ, Below.refl _ _, hKn.2 8 rfl⟩
          · refine Draw.Goes.yes 26 false 75 rfl rfl (hKn.get 26 75 rfl rfl rfl) ?_
            have h0 : ρ (.tmp 76) = .pointer (some ⟨g, 0, none⟩) := hKn.get 27 76 rfl rfl rfl
            refine Draw.Runs.enter (f := 32) (args := #[.pointer (some ⟨g, 0, none⟩)]) ?_ ((HOW.out W hJ).mono fun e W' ⟨he, hb⟩ => ⟨_, he, by subst hb; exact hJ, by subst hb; exact Below.refl _ _, rfl⟩)
            simp only [execOp]; go_simp
          · refine Draw.Goes.yes 26 false 75 rfl rfl (hKn.get 26 75 rfl rfl rfl) ?_
            exact Draw.Runs.value (w' := W) (v := ρ (.tmp 9)) rfl ⟨hJ, Below.refl _ _, hKn.2 9 rfl⟩
          · refine Draw.Goes.yes 26 false 75 rfl rfl (hKn.get 26 75 rfl rfl rfl) ?_
            have h0 : ρ (.tmp 78) = .pointer (some ⟨h, 0, none⟩) := hKn.get 29 78 rfl rfl rfl
            refine Draw.Runs.value (w' := W) (v := .pointer (some ⟨h, 0, none⟩)) ?_ ⟨hJ, Below.refl _ _, rfl⟩
            simp only [execOp]; go_simp
          · refine Draw.Goes.yes 26 false 75 rfl rfl (hKn.get 26 75 rfl rfl rfl) ?_
            have h0 : ρ (.tmp 79) = .pointer (some ⟨h, 0, none⟩) := hKn.get 30 79 rfl rfl rfl
            refine Draw.Runs.value (w' := W) (v := .pointer (some ⟨h, 5, none⟩)) ?_ ⟨hJ, Below.refl _ _, rfl⟩
            simp only [execOp]; go_simp
          · refine Draw.Goes.yes 26 false 75 rfl rfl (hKn.get 26 75 rfl rfl rfl) ?_
            have h0 : ρ (.tmp 80) = .pointer (some ⟨h, 5, none⟩) := hKn.get 31 80 rfl rfl rfl
            have c : W.cell? ⟨h, 5, none⟩ = some (.int .u64 l'.owned) := hJ.b.cell _ rfl
            refine Draw.Runs.value (w' := W) (v := .int .u64 l'.owned) ?_ ⟨hJ, Below.refl _ _, rfl⟩
            simp only [execOp]; go_simp
          · refine Draw.Goes.yes 26 false 75 rfl rfl (hKn.get 26 75 rfl rfl rfl) ?_
            have h0 : ρ (.tmp 77) = .int .u64 l'.owned := hKn.get 28 77 rfl rfl rfl
            have h1 : ρ (.tmp 81) = .int .u64 l'.owned := hKn.get 32 81 rfl rfl rfl
            refine Draw.Runs.value (w' := W) (v := .bool false) ?_ ⟨hJ, Below.refl _ _, rfl⟩
            simp only [execOp]; go_simp
          · refine Draw.Goes.plain rfl ?_
            have h0 : ρ (.tmp 75) = .bool false := hKn.get 26 75 rfl rfl rfl
            have h1 : ρ (.tmp 82) = .bool false := hKn.get 33 82 rfl rfl rfl
            refine Draw.Runs.value (w' := W) (v := .bool false) ?_ ⟨hJ, Below.refl _ _, rfl⟩
            simp only [execOp]; go_simp
          · refine Draw.Goes.plain rfl ?_
            exact Draw.Runs.value (w' := W) (v := ρ (.tmp 83)) rfl ⟨hJ, Below.refl _ _, hKn.get 34 83 rfl rfl rfl⟩
          · refine Draw.Goes.yes 35 false 84 rfl rfl (hKn.get 35 84 rfl rfl rfl) ?_
            exact Draw.Runs.value (w' := W) (v := ρ (.tmp 8)) rfl ⟨hJ, Below.refl _ _, hKn.2 8 rfl⟩
          · refine Draw.Goes.yes 35 false 84 rfl rfl (hKn.get 35 84 rfl rfl rfl) ?_
            have h0 : ρ (.tmp 85) = .pointer (some ⟨g, 0, none⟩) := hKn.get 36 85 rfl rfl rfl
            refine Draw.Runs.enter (f := 33) (args := #[.pointer (some ⟨g, 0, none⟩)]) ?_ ((HME.out W hJ).mono fun e W' ⟨he, hb⟩ => ⟨_, he, by subst hb; exact hJ, by subst hb; exact Below.refl _ _, rfl⟩)
            simp only [execOp]; go_simp
          · refine Draw.Goes.yes 35 false 84 rfl rfl (hKn.get 35 84 rfl rfl rfl) ?_
            exact Draw.Runs.value (w' := W) (v := ρ (.tmp 9)) rfl ⟨hJ, Below.refl _ _, hKn.2 9 rfl⟩
          · refine Draw.Goes.yes 35 false 84 rfl rfl (hKn.get 35 84 rfl rfl rfl) ?_
            have h0 : ρ (.tmp 87) = .pointer (some ⟨h, 0, none⟩) := hKn.get 38 87 rfl rfl rfl
            refine Draw.Runs.value (w' := W) (v := .pointer (some ⟨h, 0, none⟩)) ?_ ⟨hJ, Below.refl _ _, rfl⟩
            simp only [execOp]; go_simp
          · refine Draw.Goes.yes 35 false 84 rfl rfl (hKn.get 35 84 rfl rfl rfl) ?_
            have h0 : ρ (.tmp 88) = .pointer (some ⟨h, 0, none⟩) := hKn.get 39 88 rfl rfl rfl
            refine Draw.Runs.value (w' := W) (v := .pointer (some ⟨h, 6, none⟩)) ?_ ⟨hJ, Below.refl _ _, rfl⟩
            simp only [execOp]; go_simp
          · refine Draw.Goes.yes 35 false 84 rfl rfl (hKn.get 35 84 rfl rfl rfl) ?_
            have h0 : ρ (.tmp 89) = .pointer (some ⟨h, 6, none⟩) := hKn.get 40 89 rfl rfl rfl
            have c : W.cell? ⟨h, 6, none⟩ = some (.bool l'.met) := hJ.b.cell _ rfl
            refine Draw.Runs.value (w' := W) (v := .bool l'.met) ?_ ⟨hJ, Below.refl _ _, rfl⟩
            simp only [execOp]; go_simp
          · refine Draw.Goes.yes 35 false 84 rfl rfl (hKn.get 35 84 rfl rfl rfl) ?_
            have h0 : ρ (.tmp 86) = .bool l'.met := hKn.get 37 86 rfl rfl rfl
            have h1 : ρ (.tmp 90) = .bool l'.met := hKn.get 41 90 rfl rfl rfl
            refine Draw.Runs.value (w' := W) (v := .bool false) ?_ ⟨hJ, Below.refl _ _, rfl⟩
            simp only [execOp]; go_simp
          · refine Draw.Goes.plain rfl ?_
            have h0 : ρ (.tmp 84) = .bool false := hKn.get 35 84 rfl rfl rfl
            have h1 : ρ (.tmp 91) = .bool false := hKn.get 42 91 rfl rfl rfl
            refine Draw.Runs.value (w' := W) (v := .bool false) ?_ ⟨hJ, Below.refl _ _, rfl⟩
            simp only [execOp]; go_simp
        · intro u2 W3 hJ hf
          have r92 : u2 92 = .bool false := hf 43 _ 92 (by decide) rfl rfl
          simp only [List.foldl_cons, List.foldl_nil, List.setIfInBounds_toArray, List.set_cons_succ, List.set_cons_zero, r92]
          have HD3 := Lib.hid hJ
          clear hJ hf
          go_wp2
          go_roundw
          case rel => exact ⟨j + 1, l', by omega, by go_num, HL'.out, HD3.out⟩
          case measure => simp [intOf]; omega
    · obtain rfl : j = xs.length := by omega
      have hB := hd.bel
      clear hd hl
      go_wp2_with fail
      refine (HA.out _ hB).mono ?_
      rintro r w5 ⟨rfl, hb⟩
      have hB5 := hB.trans (hb.mono hB.size)
      clear hb hB
      go_wp2
      go_ret
      exact ⟨rfl, hB5⟩
end Go.Proofs.YtdgbililgkhjfaaDoor.Lk
namespace Go.Proofs.YtdgbililgkhjfaaDoor.Lk
open Go.RowKit Go.Proofs.YtdgbililgkhjfaaDoor.Crc Go.Proofs.YtdgbililgkhjfaaDoor.Codec Go.Proofs.YtdgbililgkhjfaaDoor.Pk Go.Proofs.YtdgbililgkhjfaaDoor.CrcWalk Go.Proofs.YtdgbililgkhjfaaDoor.Frame
set_option linter.unusedVariables false
set_option linter.unusedSimpArgs false
/-- What 'Accept' may answer. -/
theorem acc_cases (s : L) (k : K) : ((s.acc k).1 = s ∧ ((s.acc k).2 = 4 ∨ (s.acc k).2 = 12)) ∨ ((s.acc k) = (s.told k, 0) ∧ ¬ (¬ (k.may ∧ k.only = k) ∨ k.player = s.player) ∧ ¬ (k.epoch < s.epoch ∨ (k.dest ≠ s.own ∧ k.kind ≠ 1))) := by
  unfold L.acc
  by_cases h1 : ¬ (k.may ∧ k.only = k) ∨ k.player = s.player
  · rw [if_pos h1]; exact .inl ⟨rfl, .inl rfl⟩
  · rw [if_neg h1]
    by_cases h2 : k.epoch < s.epoch ∨ (k.dest ≠ s.own ∧ k.kind ≠ 1)
    · rw [if_pos h2]; exact .inl ⟨rfl, .inr rfl⟩
    · rw [if_neg h2]; exact .inr ⟨rfl, h1, h2⟩
/-- What is known never falls. -/
theorem told_rises (s : L) (k : K) : s.epoch ≤ (s.told k).epoch ∧ s.count ≤ (s.told k).count ∧ s.owned ≤ (s.told k).owned ∧ (s.met = true → (s.told k).met = false → (s.told k).epoch ≠ s.epoch) := by
  refine ⟨Nat.le_max_left _ _, Nat.le_max_left _ _, ?_, fun h1 h2 => ?_⟩
  · show s.owned ≤ (if k.kind = 3 then max (max s.owned k.own) (k.first + k.ins.length) else max s.owned k.own)
    split <;> omega
  · have h3 : ((!decide (s.epoch < k.epoch) && s.met) || decide (k.dest = s.own)) = false := h2
    rw [h1, Bool.and_true, Bool.or_eq_false_iff, Bool.not_eq_false', decide_eq_true_iff] at h3
    show max s.epoch k.epoch ≠ s.epoch
    omega
/-- The same packet again. -/
theorem acc_again (s : L) (k : K) (hs : s.wf) (h1 : ¬ (¬ (k.may ∧ k.only = k) ∨ k.player = s.player)) (h2 : ¬ (k.epoch < s.epoch ∨ (k.dest ≠ s.own ∧ k.kind ≠ 1))) :
    ∃ t : L, ((s.told k).sent 0).acc k = (t, 0) ∧ t.epoch = (s.told k).epoch ∧ t.count = (s.told k).count ∧ t.owned = (s.told k).owned ∧ t.met = (s.told k).met ∧ t.due 0 = decide (k.kind = 1) := by
  have hev := hs.every
  have he : ¬ (max s.epoch k.epoch < k.epoch) := by omega
  refine ⟨((s.told k).sent 0).told k, ?_, ?_, ?_, ?_, ?_, ?_⟩
  · unfold L.acc
    rw [if_neg (show ¬ (¬ (k.may ∧ k.only = k) ∨ k.player = ((s.told k).sent 0).player) from h1), if_neg (show ¬ (k.epoch < ((s.told k).sent 0).epoch ∨ (k.dest ≠ ((s.told k).sent 0).own ∧ k.kind ≠ 1)) from ?_)]
    rintro (h | h)
    · exact h2 (.inl (by have h' : k.epoch < max s.epoch k.epoch := h; omega))
    · exact h2 (.inr h)
  · show max (max s.epoch k.epoch) k.epoch = max s.epoch k.epoch; omega
  · show max (max s.count k.count) k.count = max s.count k.count; omega
  · show (if k.kind = 3 then max (max (if k.kind = 3 then max (max s.owned k.own) (k.first + k.ins.length) else max s.owned k.own) k.own) (k.first + k.ins.length) else max (if k.kind = 3 then max (max s.owned k.own) (k.first + k.ins.length) else max s.owned k.own) k.own) = (if k.kind = 3 then max (max s.owned k.own) (k.first + k.ins.length) else max s.owned k.own)
    by_cases h3 : k.kind = 3
    · simp only [if_pos h3]; omega
    · simp only [if_neg h3]; omega
  · show ((!decide (max s.epoch k.epoch < k.epoch) && ((!decide (s.epoch < k.epoch) && s.met) || decide (k.dest = s.own))) || decide (k.dest = s.own)) = ((!decide (s.epoch < k.epoch) && s.met) || decide (k.dest = s.own))
    rw [decide_eq_false he]
    simp
  · show ((false || decide (max s.epoch k.epoch < k.epoch) || decide (k.kind = 1)) || (!true || (decide (0 ≤ 0) && decide (s.every ≤ 0 - 0)))) = decide (k.kind = 1)
    rw [decide_eq_false he, decide_eq_false (show ¬ s.every ≤ 0 - 0 by omega)]
    simp
theorem sent_due (l : L) (hl : l.wf) : (l.sent 0).due 0 = false := by
  have := hl.every
  show (false || (!true || (decide (0 ≤ 0) && decide (l.every ≤ 0 - 0)))) = false
  rw [decide_eq_false (show ¬ l.every ≤ 0 - 0 by omega)]
  simp
set_option maxRecDepth 100000 in
set_option maxHeartbeats 16000000 in
/-- P23.5: the law LinkRises. -/
theorem rises_law (e : Nat) (v : Value) (xs : List Ac) (w : World) (he : e < 18446744073709551616) (hx : Acts w v xs) (hT : Tab w) :
    Calls Tryd.prog 9 #[.int .u64 e, v] w fun r w' => r = .returned (.bool true) ∧ Below w.heap.size w w' := by
  have HA := Lib.hid (fun W (h : Below w.heap.size w W) => awake_any W (tab_below hT h))
  have HFW := Lib.hid (fun W (h : Below w.heap.size w W) => fewl_any v xs W (hx.below h))
  have HTT := Lib.hid hT
  have HX := Lib.hid hx
  have HN1 := Lib.hid (fun W => new_yes 0 1 3 W (by decide) (by decide))
  have HNE := Lib.hid (fun W (h : 1 ≤ e) => new_yes 0 e 3 W ⟨by decide, h, by decide, by decide⟩ he)
  obtain ⟨l0, hl0⟩ : ∃ l0, l0 = L.make 0 (max 1 e) 3 := ⟨_, rfl⟩
  have hw0 : l0.wf := by rw [hl0]; exact L.make_wf (by decide) (by omega) (by decide) (by decide)
  have HL0 := Lib.hid hl0
  have HW0 := Lib.hid hw0
  clear hT hx hl0 hw0
  go_enter Tryd.func9, Tryd.ntmps9
  go_upto_region 1 with fail
  go_cut [5] (fun z wx => z = .pointer (some ⟨w.heap.size, 0, none⟩) ∧ Lv w w.heap.size l0 wx)
  case first =>
    by_cases h0 : 1 < e
    · go_wp2_with fail
      refine (HNE.out _ (Nat.le_of_lt h0)).mono ?_
      rintro r w1 ⟨rfl, hb, hbel⟩
      have HQ := Lib.hid (show Lv w w.heap.size l0 w1 from ⟨by rw [HL0.out, Nat.max_eq_right (Nat.le_of_lt h0)]; exact hb, hbel, Nat.le_refl _⟩)
      clear hb hbel
      go_wp2
      go_meet
      exact ⟨rfl, HQ.out⟩
    · go_wp2_with fail
      refine (HN1.out _).mono ?_
      rintro r w1 ⟨rfl, hb, hbel⟩
      have HQ := Lib.hid (show Lv w w.heap.size l0 w1 from ⟨by rw [HL0.out, Nat.max_eq_left (Nat.le_of_not_lt h0)]; exact hb, hbel, Nat.le_refl _⟩)
      clear hb hbel
      go_wp2
      go_meet
      exact ⟨rfl, HQ.out⟩
  case rest =>
  obtain ⟨rfl, hL0⟩ := hcut
  clear HN1 HNE HL0
  go_wp2_with fail
  refine (HFW.out _ hL0.bel).mono ?_
  rintro r w' ⟨rfl, rfl⟩
  by_cases hf : xs.length ≤ 80 ∧ ∀ x ∈ xs, x.few
  case neg =>
    rw [decide_eq_false hf]
    have hB := hL0.bel
    clear hf hL0
    go_wp2_with fail
    refine (HA.out _ hB).mono ?_
    rintro r w3 ⟨rfl, hb⟩
    have hB3 := hB.trans (hb.mono hB.size)
    clear hb hB
    go_wp2
    go_ret
    exact ⟨rfl, hB3⟩
  case pos =>
  rw [decide_eq_true hf]
  have hl80 := hf.1
  have HFE := Lib.hid hf.2
  obtain ⟨b, c, rfl, hlen, hcell⟩ := id HX.out
  have HCL := Lib.hid hcell
  have HEP := Lib.hid (fun m V (hw : L.wf m) (d : Lv w w.heap.size m V) => epoch_any m _ V d.blk hw)
  have HCO := Lib.hid (fun m V (hw : L.wf m) (d : Lv w w.heap.size m V) => count_any m _ V d.blk hw)
  have HOW := Lib.hid (fun m V (hw : L.wf m) (d : Lv w w.heap.size m V) => owned_any m _ V d.blk hw)
  have HME := Lib.hid (fun m V (hw : L.wf m) (d : Lv w w.heap.size m V) => met_any m _ V d.blk hw)
  have HSE := Lib.hid (fun m V (hw : L.wf m) (d : Lv w w.heap.size m V) => sent_any m _ 0 V d.blk hw (by decide))
  have HDU := Lib.hid (fun m V (hw : L.wf m) (d : Lv w w.heap.size m V) => due_any m _ 0 V d.blk hw (by decide))
  unfold maxLen at hlen
  clear hf hcell HFW HX
  go_wp2_with fail
  go_loopw [6] (fun i wr => ∃ (j : Nat) (l : L), j ≤ xs.length ∧ i = .int .i64 j ∧ l.wf ∧ Lv w w.heap.size l wr) (fun i _ => xs.length - (intOf i).toNat)
  case atStart => exact ⟨0, _, Nat.zero_le _, rfl, HW0.out, hL0⟩
  case round =>
    obtain ⟨j, l, hj, rfl, hl, hL⟩ := hrel
    by_cases hlt : j < xs.length
    · obtain ⟨ga, oa, rfl, ha, hr, hok⟩ := HCL.out j hlt
      have hfe := HFE.out xs[j] (List.getElem_mem _)
      generalize xs[j] = x at *
      have hl1 : (l.sent 0).wf := L.sent_wf hl (by decide)
      have HAC := Lib.hid (fun m V (hw : L.wf m) (d : Lv w w.heap.size m V) => acc_any m x.k x.vi x.vp w.heap.size V d.blk hw hok.k ((hok.ins hfe.1).below d.bel) ((hok.prs hfe.2).below d.bel) (tab_below HTT.out d.bel))
      have HR := Lib.hid (fun V (d : Below w.heap.size w V) => x.cells_pk (range_below hr ha d))
      have HKD := Lib.hid (fun V (d : Below w.heap.size w V) => (range_below hr ha d) 1 (.int .i64 x.k.kind) rfl)
      have hcs := acc_cases (l.sent 0) x.k
      have hrs := told_rises (l.sent 0) x.k
      have hag := acc_again (l.sent 0) x.k hl1
      have hsd := sent_due l hl
      have hwt := L.acc_wf hl1 hok.k
      have HLW := Lib.hid hl
      have HKW := Lib.hid hok.k
      have HL1W := Lib.hid hl1
      obtain ⟨s, hs⟩ : ∃ s, s = l.sent 0 := ⟨_, rfl⟩
      have se : s.epoch = l.epoch := by rw [hs]; rfl
      have sc : s.count = l.count := by rw [hs]; rfl
      have so : s.owned = l.owned := by rw [hs]; rfl
      have sm : s.met = l.met := by rw [hs]; rfl
      have ss : s.sent 0 = s := by rw [hs]; rfl
      rw [← hs] at hcs hrs hag hsd hwt HL1W
      have HSS := Lib.hid hs
      clear hr hok hfe hl hl1 hs
      go_wp2_with (first | (go_at_call 30; refine (HEP.out l _ HLW.out hL).mono ?_; rintro r w' ⟨rfl, rfl⟩) | (go_at_call 31; refine (HCO.out l _ HLW.out hL).mono ?_; rintro r w' ⟨rfl, rfl⟩) | (go_at_call 32; refine (HOW.out l _ HLW.out hL).mono ?_; rintro r w' ⟨rfl, rfl⟩) | (go_at_call 33; refine (HME.out l _ HLW.out hL).mono ?_; rintro r w' ⟨rfl, rfl⟩))
      refine (HSE.out l _ HLW.out hL).mono ?_
      rintro r w2 ⟨rfl, hb, hk⟩
      have hL2 := hL.upon hb hk
      rw [← HSS.out] at hL2
      have hR2 := HR.out _ hL2.bel
      clear hb hk hL
      go_wp2_with (first | (refine load_pk_mid (.tmp 51) ga (oa + j * 16 + 1) x.k x.vi x.vp hR2 rfl rfl rfl ?_))
      refine (HAC.out s _ HL1W.out hL2).mono ?_
      rintro r w3 ⟨rfl, hb, hk⟩
      have hL3 := hL2.upon hb hk
      have HL3 := Lib.hid hL3
      clear hb hk hL2 hR2 hL3
      rcases hcs with ⟨hq1, hq2⟩ | ⟨hq1, hq2, hq3⟩
      · rw [hq1] at HL3
        have e1 : ((l.epoch : Int) != (l.epoch : Int)) = false := by simp
        have e2 : ((l.count : Int) != (l.count : Int)) = false := by simp
        have e3 : ((l.owned : Int) != (l.owned : Int)) = false := by simp
        have e4 : (l.met != l.met) = false := by simp
        have e5 : ((l.epoch : Int) == (l.epoch : Int)) = true := by simp
        obtain ⟨E, hE⟩ : ∃ E, E = (s.acc x.k).2 := ⟨_, rfl⟩
        have hAC2 : s.acc x.k = (s, E) := by rw [hE]; exact Prod.ext hq1 rfl
        have hE12 : E = 4 ∨ E = 12 := by rw [hE]; exact hq2
        rw [← hE]
        have hEn : (E != 0) = true := by rw [bne_iff_ne]; omega
        have hE0 : (E == 0) = false := by rw [beq_eq_false_iff_ne]; omega
        have hEE : (E != E) = false := by simp
        have HE := Lib.hid hAC2
        have HSD := Lib.hid hsd
        have HSS2 := Lib.hid ss
        have HNEW := Lib.hid (show s.epoch = l.epoch ∧ s.count = l.count ∧ s.owned = l.owned ∧ s.met = l.met from ⟨se, sc, so, sm⟩)
        clear hq1 hq2 hrs hag hwt hsd ss hE hAC2
        have hL3 := HL3.out
        have HEPs := Lib.hid (fun V (d : Lv w w.heap.size s V) => HEP.out s V HL1W.out d)
        have HCOs := Lib.hid (fun V (d : Lv w w.heap.size s V) => HCO.out s V HL1W.out d)
        have HOWs := Lib.hid (fun V (d : Lv w w.heap.size s V) => HOW.out s V HL1W.out d)
        have HMEs := Lib.hid (fun V (d : Lv w w.heap.size s V) => HME.out s V HL1W.out d)
        rw [se] at HEPs
        rw [sc] at HCOs
        rw [so] at HOWs
        rw [sm] at HMEs
        have HDUs := Lib.hid (fun V (d : Lv w w.heap.size s V) => HDU.out s V HL1W.out d)
        rw [HSD.out] at HDUs
        have HACs := Lib.hid (fun V (d : Lv w w.heap.size s V) => HAC.out s V HL1W.out d)
        rw [HE.out] at HACs
        dsimp only at HACs
        have HSEs := Lib.hid (fun V (d : Lv w w.heap.size s V) => HSE.out s V HL1W.out d)
        rw [HSS2.out] at HSEs
        clear se sc so sm HL3
        cases hm : l.met with
        | true =>
          rw [hm] at HMEs e4
          go_wp2_with (first | (go_at_call 30; refine (HEPs.out _ hL3).mono ?_; rintro r w' ⟨rfl, rfl⟩) | (go_at_call 31; refine (HCOs.out _ hL3).mono ?_; rintro r w' ⟨rfl, rfl⟩) | (go_at_call 32; refine (HOWs.out _ hL3).mono ?_; rintro r w' ⟨rfl, rfl⟩) | (go_at_call 33; refine (HMEs.out _ hL3).mono ?_; rintro r w' ⟨rfl, rfl⟩))
          refine (HDUs.out _ hL3).mono ?_
          rintro r w4 ⟨rfl, hb⟩
          have hL4 := hL3.call hb
          clear hb hL3
          go_wp2_with (first | (go_at_call 30; refine (HEPs.out _ hL4).mono ?_; rintro r w' ⟨rfl, rfl⟩) | (go_at_call 31; refine (HCOs.out _ hL4).mono ?_; rintro r w' ⟨rfl, rfl⟩) | (go_at_call 32; refine (HOWs.out _ hL4).mono ?_; rintro r w' ⟨rfl, rfl⟩) | (go_at_call 33; refine (HMEs.out _ hL4).mono ?_; rintro r w' ⟨rfl, rfl⟩))
          refine (HSEs.out _ hL4).mono ?_
          rintro r w5 ⟨rfl, hb, hk⟩
          have hL5 := hL4.upon hb hk
          have hR5 := HR.out _ hL5.bel
          clear hb hk hL4
          go_wp2_with (first | (refine load_pk_mid (.tmp 128) ga (oa + j * 16 + 1) x.k x.vi x.vp hR5 rfl rfl rfl ?_))
          refine (HACs.out _ hL5).mono ?_
          rintro r w6 ⟨rfl, hb, hk⟩
          have hL6 := hL5.upon hb hk
          clear hb hk hL5 hR5
          go_wp2_with (first | (go_at_call 30; refine (HEPs.out _ hL6).mono ?_; rintro r w' ⟨rfl, rfl⟩) | (go_at_call 31; refine (HCOs.out _ hL6).mono ?_; rintro r w' ⟨rfl, rfl⟩) | (go_at_call 32; refine (HOWs.out _ hL6).mono ?_; rintro r w' ⟨rfl, rfl⟩) | (go_at_call 33; refine (HMEs.out _ hL6).mono ?_; rintro r w' ⟨rfl, rfl⟩))
          refine (HDUs.out _ hL6).mono ?_
          rintro r w7 ⟨rfl, hb⟩
          have HL7 := Lib.hid (hL6.call hb)
          clear hb hL6
          go_wp2
          go_roundw
          case rel => exact ⟨j + 1, s, by omega, by go_num, HL1W.out, HL7.out⟩
          case measure => simp [intOf]; omega
        | false =>
          rw [hm] at HMEs e4
          go_wp2_with (first | (go_at_call 30; refine (HEPs.out _ hL3).mono ?_; rintro r w' ⟨rfl, rfl⟩) | (go_at_call 31; refine (HCOs.out _ hL3).mono ?_; rintro r w' ⟨rfl, rfl⟩) | (go_at_call 32; refine (HOWs.out _ hL3).mono ?_; rintro r w' ⟨rfl, rfl⟩) | (go_at_call 33; refine (HMEs.out _ hL3).mono ?_; rintro r w' ⟨rfl, rfl⟩))
          refine (HDUs.out _ hL3).mono ?_
          rintro r w4 ⟨rfl, hb⟩
          have hL4 := hL3.call hb
          clear hb hL3
          go_wp2_with (first | (go_at_call 30; refine (HEPs.out _ hL4).mono ?_; rintro r w' ⟨rfl, rfl⟩) | (go_at_call 31; refine (HCOs.out _ hL4).mono ?_; rintro r w' ⟨rfl, rfl⟩) | (go_at_call 32; refine (HOWs.out _ hL4).mono ?_; rintro r w' ⟨rfl, rfl⟩) | (go_at_call 33; refine (HMEs.out _ hL4).mono ?_; rintro r w' ⟨rfl, rfl⟩))
          refine (HSEs.out _ hL4).mono ?_
          rintro r w5 ⟨rfl, hb, hk⟩
          have hL5 := hL4.upon hb hk
          have hR5 := HR.out _ hL5.bel
          clear hb hk hL4
          go_wp2_with (first | (refine load_pk_mid (.tmp 128) ga (oa + j * 16 + 1) x.k x.vi x.vp hR5 rfl rfl rfl ?_))
          refine (HACs.out _ hL5).mono ?_
          rintro r w6 ⟨rfl, hb, hk⟩
          have hL6 := hL5.upon hb hk
          clear hb hk hL5 hR5
          go_wp2_with (first | (go_at_call 30; refine (HEPs.out _ hL6).mono ?_; rintro r w' ⟨rfl, rfl⟩) | (go_at_call 31; refine (HCOs.out _ hL6).mono ?_; rintro r w' ⟨rfl, rfl⟩) | (go_at_call 32; refine (HOWs.out _ hL6).mono ?_; rintro r w' ⟨rfl, rfl⟩) | (go_at_call 33; refine (HMEs.out _ hL6).mono ?_; rintro r w' ⟨rfl, rfl⟩))
          refine (HDUs.out _ hL6).mono ?_
          rintro r w7 ⟨rfl, hb⟩
          have HL7 := Lib.hid (hL6.call hb)
          clear hb hL6
          go_wp2
          go_roundw
          case rel => exact ⟨j + 1, s, by omega, by go_num, HL1W.out, HL7.out⟩
          case measure => simp [intOf]; omega
      · obtain ⟨t, ht0, ht1, ht2, ht3, ht4, ht5⟩ := hag hq2 hq3
        rw [hq1] at HL3 hwt
        dsimp only at HL3 hwt
        obtain ⟨q1, q2, q3, q4⟩ := hrs
        rw [se] at q1 q4
        rw [sc] at q2
        rw [so] at q3
        rw [sm] at q4
        have hEQ : (s.acc x.k).2 = 0 := by rw [hq1]
        rw [hEQ]
        generalize s.told x.k = s2 at *
        have hwt3 : (s2.sent 0).wf := L.sent_wf hwt (by decide)
        have hwt4 : t.wf := by have h := L.acc_wf (k := x.k) hwt3 HKW.out; rw [ht0] at h; exact h
        have e1 : ((s2.epoch : Int) != (s2.epoch : Int)) = false := by simp
        have e2 : ((s2.count : Int) != (s2.count : Int)) = false := by simp
        have e3 : ((s2.owned : Int) != (s2.owned : Int)) = false := by simp
        have HW2 := Lib.hid hwt
        have HW3 := Lib.hid hwt3
        have HW4 := Lib.hid hwt4
        have HEPs := Lib.hid (fun V (d : Lv w w.heap.size s2 V) => HEP.out s2 V HW2.out d)
        have HCOs := Lib.hid (fun V (d : Lv w w.heap.size s2 V) => HCO.out s2 V HW2.out d)
        have HOWs := Lib.hid (fun V (d : Lv w w.heap.size s2 V) => HOW.out s2 V HW2.out d)
        have HMEs := Lib.hid (fun V (d : Lv w w.heap.size s2 V) => HME.out s2 V HW2.out d)
        have HEPt := Lib.hid (fun V (d : Lv w w.heap.size t V) => HEP.out t V HW4.out d)
        have HCOt := Lib.hid (fun V (d : Lv w w.heap.size t V) => HCO.out t V HW4.out d)
        have HOWt := Lib.hid (fun V (d : Lv w w.heap.size t V) => HOW.out t V HW4.out d)
        have HMEt := Lib.hid (fun V (d : Lv w w.heap.size t V) => HME.out t V HW4.out d)
        have HDUt := Lib.hid (fun V (d : Lv w w.heap.size t V) => HDU.out t V HW4.out d)
        have HSEs := Lib.hid (fun V (d : Lv w w.heap.size s2 V) => HSE.out s2 V HW2.out d)
        have HACs := Lib.hid (fun V (d : Lv w w.heap.size (s2.sent 0) V) => HAC.out _ V HW3.out d)
        rw [ht1] at HEPt
        rw [ht2] at HCOt
        rw [ht3] at HOWt
        rw [ht4] at HMEt
        rw [ht5] at HDUt
        rw [ht0] at HACs
        dsimp only at HACs
        obtain ⟨KD, hKD⟩ : ∃ KD, (x.k.kind == 1) = KD := ⟨_, rfl⟩
        rw [show decide (x.k.kind = 1) = KD by rw [← hKD, Bool.eq_iff_iff]; simp] at HDUt
        have eKD : (KD != KD) = false := by simp
        clear ht0 ht1 ht2 ht3 ht4 ht5 hwt hwt3 hwt4 hq1 hq2 hq3 hag ss se sc so sm hsd hEQ
        have hL3 := HL3.out
        clear HL3
        cases hm2 : s2.met with
        | true =>
          rw [hm2] at HMEs HMEt
          have e4 : (true != true) = false := rfl
          cases hm : l.met with
          | true =>
            clear hm hm2 q4
            go_wp2_with (first | (go_at_call 30; refine (HEPs.out _ hL3).mono ?_; rintro r w' ⟨rfl, rfl⟩) | (go_at_call 31; refine (HCOs.out _ hL3).mono ?_; rintro r w' ⟨rfl, rfl⟩) | (go_at_call 32; refine (HOWs.out _ hL3).mono ?_; rintro r w' ⟨rfl, rfl⟩) | (go_at_call 33; refine (HMEs.out _ hL3).mono ?_; rintro r w' ⟨rfl, rfl⟩))
            refine (HSEs.out _ hL3).mono ?_
            rintro r w5 ⟨rfl, hb, hk⟩
            have hL5 := hL3.upon hb hk
            have hR5 := HR.out _ hL5.bel
            clear hb hk hL3
            go_wp2_with (first | (refine load_pk_mid (.tmp 128) ga (oa + j * 16 + 1) x.k x.vi x.vp hR5 rfl rfl rfl ?_))
            refine (HACs.out _ hL5).mono ?_
            rintro r w6 ⟨rfl, hb, hk⟩
            have hL6 := hL5.upon hb hk
            clear hb hk hL5 hR5
            go_wp2_with (first | (go_at_call 30; refine (HEPt.out _ hL6).mono ?_; rintro r w' ⟨rfl, rfl⟩) | (go_at_call 31; refine (HCOt.out _ hL6).mono ?_; rintro r w' ⟨rfl, rfl⟩) | (go_at_call 32; refine (HOWt.out _ hL6).mono ?_; rintro r w' ⟨rfl, rfl⟩) | (go_at_call 33; refine (HMEt.out _ hL6).mono ?_; rintro r w' ⟨rfl, rfl⟩))
            refine (HDUt.out _ hL6).mono ?_
            rintro r w7 ⟨rfl, hb⟩
            have hL7 := hL6.call hb
            have hK7 : w7.cell? ⟨ga, oa + j * 16 + 1, none⟩ = some (.int .i64 x.k.kind) := HKD.out _ hL7.bel
            have HL7 := Lib.hid hL7
            clear hb hL6 hL7
            go_wp2
            go_roundw
            case rel => exact ⟨j + 1, t, by omega, by go_num, HW4.out, HL7.out⟩
            case measure => simp [intOf]; omega
          | false =>
            clear hm hm2 q4
            go_wp2_with (first | (go_at_call 30; refine (HEPs.out _ hL3).mono ?_; rintro r w' ⟨rfl, rfl⟩) | (go_at_call 31; refine (HCOs.out _ hL3).mono ?_; rintro r w' ⟨rfl, rfl⟩) | (go_at_call 32; refine (HOWs.out _ hL3).mono ?_; rintro r w' ⟨rfl, rfl⟩) | (go_at_call 33; refine (HMEs.out _ hL3).mono ?_; rintro r w' ⟨rfl, rfl⟩))
            refine (HSEs.out _ hL3).mono ?_
            rintro r w5 ⟨rfl, hb, hk⟩
            have hL5 := hL3.upon hb hk
            have hR5 := HR.out _ hL5.bel
            clear hb hk hL3
            go_wp2_with (first | (refine load_pk_mid (.tmp 128) ga (oa + j * 16 + 1) x.k x.vi x.vp hR5 rfl rfl rfl ?_))
            refine (HACs.out _ hL5).mono ?_
            rintro r w6 ⟨rfl, hb, hk⟩
            have hL6 := hL5.upon hb hk
            clear hb hk hL5 hR5
            go_wp2_with (first | (go_at_call 30; refine (HEPt.out _ hL6).mono ?_; rintro r w' ⟨rfl, rfl⟩) | (go_at_call 31; refine (HCOt.out _ hL6).mono ?_; rintro r w' ⟨rfl, rfl⟩) | (go_at_call 32; refine (HOWt.out _ hL6).mono ?_; rintro r w' ⟨rfl, rfl⟩) | (go_at_call 33; refine (HMEt.out _ hL6).mono ?_; rintro r w' ⟨rfl, rfl⟩))
            refine (HDUt.out _ hL6).mono ?_
            rintro r w7 ⟨rfl, hb⟩
            have hL7 := hL6.call hb
            have hK7 : w7.cell? ⟨ga, oa + j * 16 + 1, none⟩ = some (.int .i64 x.k.kind) := HKD.out _ hL7.bel
            have HL7 := Lib.hid hL7
            clear hb hL6 hL7
            go_wp2
            go_roundw
            case rel => exact ⟨j + 1, t, by omega, by go_num, HW4.out, HL7.out⟩
            case measure => simp [intOf]; omega
        | false =>
          rw [hm2] at HMEs HMEt
          have e4 : (false != false) = false := rfl
          cases hm : l.met with
          | true =>
            have e5 : ((s2.epoch : Int) == (l.epoch : Int)) = false := by rw [beq_eq_false_iff_ne]; have := q4 hm hm2; omega
            clear hm hm2 q4
            go_wp2_with (first | (go_at_call 30; refine (HEPs.out _ hL3).mono ?_; rintro r w' ⟨rfl, rfl⟩) | (go_at_call 31; refine (HCOs.out _ hL3).mono ?_; rintro r w' ⟨rfl, rfl⟩) | (go_at_call 32; refine (HOWs.out _ hL3).mono ?_; rintro r w' ⟨rfl, rfl⟩) | (go_at_call 33; refine (HMEs.out _ hL3).mono ?_; rintro r w' ⟨rfl, rfl⟩))
            refine (HSEs.out _ hL3).mono ?_
            rintro r w5 ⟨rfl, hb, hk⟩
            have hL5 := hL3.upon hb hk
            have hR5 := HR.out _ hL5.bel
            clear hb hk hL3
            go_wp2_with (first | (refine load_pk_mid (.tmp 128) ga (oa + j * 16 + 1) x.k x.vi x.vp hR5 rfl rfl rfl ?_))
            refine (HACs.out _ hL5).mono ?_
            rintro r w6 ⟨rfl, hb, hk⟩
            have hL6 := hL5.upon hb hk
            clear hb hk hL5 hR5
            go_wp2_with (first | (go_at_call 30; refine (HEPt.out _ hL6).mono ?_; rintro r w' ⟨rfl, rfl⟩) | (go_at_call 31; refine (HCOt.out _ hL6).mono ?_; rintro r w' ⟨rfl, rfl⟩) | (go_at_call 32; refine (HOWt.out _ hL6).mono ?_; rintro r w' ⟨rfl, rfl⟩) | (go_at_call 33; refine (HMEt.out _ hL6).mono ?_; rintro r w' ⟨rfl, rfl⟩))
            refine (HDUt.out _ hL6).mono ?_
            rintro r w7 ⟨rfl, hb⟩
            have hL7 := hL6.call hb
            have hK7 : w7.cell? ⟨ga, oa + j * 16 + 1, none⟩ = some (.int .i64 x.k.kind) := HKD.out _ hL7.bel
            have HL7 := Lib.hid hL7
            clear hb hL6 hL7
            go_wp2
            go_roundw
            case rel => exact ⟨j + 1, t, by omega, by go_num, HW4.out, HL7.out⟩
            case measure => simp [intOf]; omega
          | false =>
            clear hm hm2 q4
            go_wp2_with (first | (go_at_call 30; refine (HEPs.out _ hL3).mono ?_; rintro r w' ⟨rfl, rfl⟩) | (go_at_call 31; refine (HCOs.out _ hL3).mono ?_; rintro r w' ⟨rfl, rfl⟩) | (go_at_call 32; refine (HOWs.out _ hL3).mono ?_; rintro r w' ⟨rfl, rfl⟩) | (go_at_call 33; refine (HMEs.out _ hL3).mono ?_; rintro r w' ⟨rfl, rfl⟩))
            refine (HSEs.out _ hL3).mono ?_
            rintro r w5 ⟨rfl, hb, hk⟩
            have hL5 := hL3.upon hb hk
            have hR5 := HR.out _ hL5.bel
            clear hb hk hL3
            go_wp2_with (first | (refine load_pk_mid (.tmp 128) ga (oa + j * 16 + 1) x.k x.vi x.vp hR5 rfl rfl rfl ?_))
            refine (HACs.out _ hL5).mono ?_
            rintro r w6 ⟨rfl, hb, hk⟩
            have hL6 := hL5.upon hb hk
            clear hb hk hL5 hR5
            go_wp2_with (first | (go_at_call 30; refine (HEPt.out _ hL6).mono ?_; rintro r w' ⟨rfl, rfl⟩) | (go_at_call 31; refine (HCOt.out _ hL6).mono ?_; rintro r w' ⟨rfl, rfl⟩) | (go_at_call 32; refine (HOWt.out _ hL6).mono ?_; rintro r w' ⟨rfl, rfl⟩) | (go_at_call 33; refine (HMEt.out _ hL6).mono ?_; rintro r w' ⟨rfl, rfl⟩))
            refine (HDUt.out _ hL6).mono ?_
            rintro r w7 ⟨rfl, hb⟩
            have hL7 := hL6.call hb
            have hK7 : w7.cell? ⟨ga, oa + j * 16 + 1, none⟩ = some (.int .i64 x.k.kind) := HKD.out _ hL7.bel
            have HL7 := Lib.hid hL7
            clear hb hL6 hL7
            go_wp2
            go_roundw
            case rel => exact ⟨j + 1, t, by omega, by go_num, HW4.out, HL7.out⟩
            case measure => simp [intOf]; omega
    · obtain rfl : j = xs.length := by omega
      have hB := hL.bel
      clear hL hl
      go_wp2_with fail
      refine (HA.out _ hB).mono ?_
      rintro r w5 ⟨rfl, hb⟩
      have hB5 := hB.trans (hb.mono hB.size)
      clear hb hB
      go_wp2
      go_ret
      exact ⟨rfl, hB5⟩
end Go.Proofs.YtdgbililgkhjfaaDoor.Lk
