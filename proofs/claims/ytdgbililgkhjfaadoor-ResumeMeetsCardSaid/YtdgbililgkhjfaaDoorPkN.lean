/- A packet as an argument, opened. No conditions. -/
import Derived.Test.YtdgbililgkhjfaaDoorPkY
import Derived.WalkKit
import Derived.ProofKit
import Derived.OpenShut
import Derived.ShutString
import Derived.Lib.SmallJoins
namespace Go.Proofs.YtdgbililgkhjfaaDoor.Pk
open Go.ChangeShapes Go.WideShapes Go.ChangeAt Go.RowKit
set_option linter.unusedVariables false
theorem kInt : Tryd.prog.cellsOf 3 = 1 := by kernel_rfl
theorem kU64 : Tryd.prog.cellsOf 22 = 1 := by kernel_rfl
theorem kU8 : Tryd.prog.cellsOf 5 = 1 := by kernel_rfl
theorem kPair : Tryd.prog.cellsOf 44 = 2 := by kernel_rfl
theorem kIns : Tryd.prog.cellsOf 23 = 1 := by kernel_rfl
theorem kPrs : Tryd.prog.cellsOf 24 = 1 := by kernel_rfl
theorem kPk : Tryd.prog.cellsOf 26 = 11 := by kernel_rfl
theorem bIn : Tryd.prog.bytesOf 42 = 1 := by kernel_rfl
theorem bPr : Tryd.prog.bytesOf 44 = 2 := by kernel_rfl
theorem nat_u64 {z : Int} (h : (Lit.int .u64 z).wf = true) : ∃ n : Nat, z = n ∧ n < 18446744073709551616 := by
  simp [Lit.wf, IntKind.min, IntKind.max, IntKind.signed, IntKind.bits] at h
  exact ⟨z.toNat, by omega, by omega⟩
theorem nat_u8 {z : Int} (h : (Lit.int .u8 z).wf = true) : ∃ n : Nat, z = n ∧ n < 256 := by
  simp [Lit.wf, IntKind.min, IntKind.max, IntKind.signed, IntKind.bits] at h
  exact ⟨z.toNat, by omega, by omega⟩
theorem int_i64 {z : Int} (h : (Lit.int .i64 z).wf = true) : -9223372036854775808 ≤ z ∧ z ≤ 9223372036854775807 := by
  simp [Lit.wf, IntKind.min, IntKind.max, IntKind.signed, IntKind.bits] at h
  omega
section
variable {H : Type} {enc : TypeId × Value → H} {W : World} {base : Nat} {spare : Nat → Bool} {held : Bool} {n : Nat}
theorem cell_int {c : Value} {y : DataW H × List MemPlace} (h : DataW.trod enc Tryd.prog W base spare held n 3 [c] = some y) : ∃ z : Int, c = .int .i64 z ∧ -9223372036854775808 ≤ z ∧ z ≤ 9223372036854775807 := by
  obtain ⟨z, e, _, hw⟩ := DataW.trod_int Tryd.underlying3 h
  exact ⟨z, by simpa using e, int_i64 hw⟩
theorem cell_u64 {c : Value} {y : DataW H × List MemPlace} (h : DataW.trod enc Tryd.prog W base spare held n 22 [c] = some y) : ∃ z : Nat, c = .int .u64 z ∧ z < 18446744073709551616 := by
  obtain ⟨z, e, _, hw⟩ := DataW.trod_int Tryd.underlying22 h
  obtain ⟨m, rfl, hm⟩ := nat_u64 hw
  exact ⟨m, by simpa using e, hm⟩
theorem cell_u8 {c : Value} {y : DataW H × List MemPlace} (h : DataW.trod enc Tryd.prog W base spare held n 5 [c] = some y) : ∃ z : Nat, c = .int .u8 z ∧ z < 256 := by
  obtain ⟨z, e, _, hw⟩ := DataW.trod_int Tryd.underlying5 h
  obtain ⟨m, rfl, hm⟩ := nat_u8 hw
  exact ⟨m, by simpa using e, hm⟩
theorem cell_in {cs : List Value} {y : DataW H × List MemPlace} (h : DataW.trod enc Tryd.prog W base spare held n 42 cs = some y) : ∃ u : UInt8, cs = [.int .u8 u.toNat] := by
  obtain ⟨z, e, _, hw⟩ := DataW.trod_int Tryd.underlying42 h
  obtain ⟨m, rfl, hm⟩ := nat_u8 hw
  exact ⟨UInt8.ofNat m, by rw [e, UInt8.toNat_ofNat', Nat.mod_eq_of_lt hm]⟩
theorem cell_pair {cs : List Value} {y : DataW H × List MemPlace} (h : DataW.trod enc Tryd.prog W base spare held n 44 cs = some y) (hl : cs.length = 2) : ∃ a b : UInt8, cs = [.int .u8 a.toNat, .int .u8 b.toNat] := by
  obtain ⟨xs, m, _, _, _, hlen, hg⟩ := DataW.trod_array Tryd.underlying44 h
  rw [cellsIn] at hg
  match cs, hl, xs, hlen with
  | [c, d], _, [y0, y1], _ =>
    obtain ⟨a, ha⟩ := cell_in (show DataW.trod enc Tryd.prog W base spare held m 42 [c] = some y0 from hg 0 (by decide))
    obtain ⟨b, hb⟩ := cell_in (show DataW.trod enc Tryd.prog W base spare held m 42 [d] = some y1 from hg 1 (by decide))
    cases ha
    cases hb
    exact ⟨a, b, rfl⟩
theorem add_spot {a : Addr} (h : (a.add 0).spot = none) : a = ⟨a.block, a.off, none⟩ := by
  obtain ⟨b, o, s⟩ := a
  unfold Addr.add at h
  cases s with
  | none => rfl
  | some s => simp at h
set_option maxRecDepth 100000 in
theorem open_ins {b : Option Addr} {k c : Nat} {x : DataW H × List MemPlace} (h : DataW.trod enc Tryd.prog W base spare held n 23 [.slice b k c] = some x) : (k ≤ maxLen ∧ ((x.1.weights Tryd.prog 23).all (· ≤ reachBytes) = true → k ≤ reachBytes)) ∧ ∃ l : List UInt8, k ≤ 200 → Ins W (.slice b k c) l := by
  rcases DataW.trod_slice Tryd.underlying23 h with ⟨e, _⟩ | ⟨a, len, cap, elems, rest, m, _, e, hx, _, h1, h2, h3, hg, _⟩
  · cases e
    exact ⟨⟨Nat.zero_le _, fun _ => Nat.zero_le _⟩, [], fun _ => ins_nil W⟩
  · cases e
    rw [cellsIn] at hg
    have key : ∀ i, i < k → ∃ u : UInt8, W.cell? (a.add i) = some (.int .u8 u.toNat) := fun i hi => by
      have hh := hg i hi
      rw [Nat.mul_one] at hh
      have he : elems[i]? = some elems[i] := List.getElem?_eq_getElem (by omega)
      rw [he] at hh
      obtain ⟨cs, hc, ht⟩ := Option.bind_eq_some_iff.1 hh
      obtain ⟨u, rfl⟩ := cell_in ht
      exact ⟨u, cell_of_cells?_one hc⟩
    refine ⟨⟨Nat.le_trans h1 h2, fun hw => ?_⟩, ?_⟩
    · generalize reachBytes = R at hw ⊢
      rw [hx] at hw
      simp only [DataW.weights, Tryd.underlying23, List.all_cons, bIn, Bool.and_eq_true, decide_eq_true_iff, List.length_map] at hw
      have := hw.1
      omega
    have hch : ∃ f : Nat → UInt8, ∀ i, i < k → W.cell? (a.add i) = some (.int .u8 (f i).toNat) :=
      ⟨fun i => if hi : i < k then (key i hi).choose else 0, fun i hi => by simp only [hi, dif_pos]; exact (key i hi).choose_spec⟩
    obtain ⟨f, hf⟩ := hch
    refine ⟨(List.range k).map f, fun hk => ⟨some a, c, by simp, by simp; omega, fun i hi => ?_⟩⟩
    have hik : i < k := by simpa using hi
    have hc := hf i hik
    have ha := add_spot (World.cell?_spot (hf 0 (by omega)))
    refine ⟨a.block, a.off, by rw [← ha], ?_, ?_⟩
    · have := World.block_lt_of_cell? W _ hc
      rw [ha, add_at] at this
      exact this
    · rw [ha, add_at] at hc
      simp only [List.getElem_map, List.getElem_range]
      exact hc
set_option maxRecDepth 100000 in
theorem open_prs {b : Option Addr} {k c : Nat} {x : DataW H × List MemPlace} (h : DataW.trod enc Tryd.prog W base spare held n 24 [.slice b k c] = some x) : (k ≤ maxLen ∧ ((x.1.weights Tryd.prog 24).all (· ≤ reachBytes) = true → k ≤ reachBytes)) ∧ ∃ l : List (UInt8 × UInt8), k ≤ 200 → Prs W (.slice b k c) l := by
  rcases DataW.trod_slice Tryd.underlying24 h with ⟨e, _⟩ | ⟨a, len, cap, elems, rest, m, _, e, hx, _, h1, h2, h3, hg, _⟩
  · cases e
    exact ⟨⟨Nat.zero_le _, fun _ => Nat.zero_le _⟩, [], fun _ => prs_nil W⟩
  · cases e
    rw [kPair] at hg
    have key : ∀ i, i < k → ∃ u : UInt8 × UInt8, W.cell? ((a.add (i * 2)).add 0) = some (.int .u8 u.1.toNat) ∧ W.cell? ((a.add (i * 2)).add 1) = some (.int .u8 u.2.toNat) := fun i hi => by
      have hh := hg i hi
      have he : elems[i]? = some elems[i] := List.getElem?_eq_getElem (by omega)
      rw [he] at hh
      obtain ⟨cs, hc, ht⟩ := Option.bind_eq_some_iff.1 hh
      obtain ⟨_, hl, hcc⟩ := World.cells?_some hc
      obtain ⟨u, v, rfl⟩ := cell_pair ht hl
      exact ⟨(u, v), hcc 0 (by decide), hcc 1 (by decide)⟩
    refine ⟨⟨Nat.le_trans h1 h2, fun hw => ?_⟩, ?_⟩
    · generalize reachBytes = R at hw ⊢
      rw [hx] at hw
      simp only [DataW.weights, Tryd.underlying24, List.all_cons, bPr, Bool.and_eq_true, decide_eq_true_iff, List.length_map] at hw
      have := hw.1
      omega
    have hch : ∃ f : Nat → UInt8 × UInt8, ∀ i, i < k → W.cell? ((a.add (i * 2)).add 0) = some (.int .u8 (f i).1.toNat) ∧ W.cell? ((a.add (i * 2)).add 1) = some (.int .u8 (f i).2.toNat) :=
      ⟨fun i => if hi : i < k then (key i hi).choose else (0, 0), fun i hi => by simp only [hi, dif_pos]; exact (key i hi).choose_spec⟩
    obtain ⟨f, hf⟩ := hch
    refine ⟨(List.range k).map f, fun hk => ⟨some a, c, by simp, by simp; omega, fun i hi => ?_⟩⟩
    have hik : i < k := by simpa using hi
    obtain ⟨hc, hd⟩ := hf i hik
    have h0 := (hf 0 (by omega)).1
    have hb := add_spot (World.cell?_spot h0)
    have ha : a = ⟨a.block, a.off, none⟩ := add_spot (by rw [show (0 : Nat) = 0 * 2 from rfl, hb])
    rw [ha, add_at, add_at] at hc hd
    have hlt : a.block < W.heap.size := World.block_lt_of_cell? W (⟨a.block, a.off + i * 2 + 0, none⟩ : Addr) hc
    refine ⟨a.block, a.off, by rw [← ha], hlt, ?_, ?_⟩
    · simp only [List.getElem_map, List.getElem_range]
      exact hc
    · simp only [List.getElem_map, List.getElem_range]
      exact hd
set_option maxRecDepth 100000 in
/-- A packet that came in. -/
theorem open_pk {r0 : Reach} {b0 : Nat} {v : Value} {d : DataW H} {p : List MemPlace} (hv : Value.okWide Tryd.prog W r0 b0 26 v) (h : DataW.Trod enc Tryd.prog W base spare held 26 v d p) :
    ∃ (k : K) (b b' : Option Addr) (n n' c c' : Nat), v = .agg (pc k (.slice b n c) (.slice b' n' c')) ∧ k.wf ∧ n ≤ maxLen ∧ n' ≤ maxLen ∧ (n ≤ 200 → Ins W (.slice b n c) k.ins) ∧ (n' ≤ 200 → Prs W (.slice b' n' c') k.prs) ∧ ((d.weights Tryd.prog 26).all (· ≤ reachBytes) = true → n ≤ reachBytes ∧ n' ≤ reachBytes) := by
  obtain ⟨cs, rfl, hsz⟩ := okWide_struct Tryd.underlying26 hv
  rw [kPk] at hsz
  obtain ⟨l⟩ := cs
  match l, hsz with
  | [c0, c1, c2, c3, c4, c5, c6, c7, c8, c9, c10], _ =>
    obtain ⟨fuel, hf⟩ := h
    obtain ⟨xs, m, _, hx, _, hlen, hg⟩ := DataW.trod_struct Tryd.underlying26 hf
    match xs, hlen with
    | [y0, y1, y2, y3, y4, y5, y6, y7, y8, y9, y10], _ =>
      have g0 : DataW.trod enc Tryd.prog W base spare held m 3 (((Value.agg #[c0, c1, c2, c3, c4, c5, c6, c7, c8, c9, c10]).cells.toList.drop 0).take (Tryd.prog.cellsOf 3)) = some y0 := hg 0 _ rfl
      rw [kInt] at g0
      have f0 : DataW.trod enc Tryd.prog W base spare held m 3 [c0] = some y0 := g0
      have g1 : DataW.trod enc Tryd.prog W base spare held m 5 (((Value.agg #[c0, c1, c2, c3, c4, c5, c6, c7, c8, c9, c10]).cells.toList.drop 1).take (Tryd.prog.cellsOf 5)) = some y1 := hg 1 _ rfl
      rw [kU8] at g1
      have f1 : DataW.trod enc Tryd.prog W base spare held m 5 [c1] = some y1 := g1
      have g2 : DataW.trod enc Tryd.prog W base spare held m 22 (((Value.agg #[c0, c1, c2, c3, c4, c5, c6, c7, c8, c9, c10]).cells.toList.drop 2).take (Tryd.prog.cellsOf 22)) = some y2 := hg 2 _ rfl
      rw [kU64] at g2
      have f2 : DataW.trod enc Tryd.prog W base spare held m 22 [c2] = some y2 := g2
      have g3 : DataW.trod enc Tryd.prog W base spare held m 22 (((Value.agg #[c0, c1, c2, c3, c4, c5, c6, c7, c8, c9, c10]).cells.toList.drop 3).take (Tryd.prog.cellsOf 22)) = some y3 := hg 3 _ rfl
      rw [kU64] at g3
      have f3 : DataW.trod enc Tryd.prog W base spare held m 22 [c3] = some y3 := g3
      have g4 : DataW.trod enc Tryd.prog W base spare held m 22 (((Value.agg #[c0, c1, c2, c3, c4, c5, c6, c7, c8, c9, c10]).cells.toList.drop 4).take (Tryd.prog.cellsOf 22)) = some y4 := hg 4 _ rfl
      rw [kU64] at g4
      have f4 : DataW.trod enc Tryd.prog W base spare held m 22 [c4] = some y4 := g4
      have g5 : DataW.trod enc Tryd.prog W base spare held m 22 (((Value.agg #[c0, c1, c2, c3, c4, c5, c6, c7, c8, c9, c10]).cells.toList.drop 5).take (Tryd.prog.cellsOf 22)) = some y5 := hg 5 _ rfl
      rw [kU64] at g5
      have f5 : DataW.trod enc Tryd.prog W base spare held m 22 [c5] = some y5 := g5
      have g6 : DataW.trod enc Tryd.prog W base spare held m 22 (((Value.agg #[c0, c1, c2, c3, c4, c5, c6, c7, c8, c9, c10]).cells.toList.drop 6).take (Tryd.prog.cellsOf 22)) = some y6 := hg 6 _ rfl
      rw [kU64] at g6
      have f6 : DataW.trod enc Tryd.prog W base spare held m 22 [c6] = some y6 := g6
      have g7 : DataW.trod enc Tryd.prog W base spare held m 23 (((Value.agg #[c0, c1, c2, c3, c4, c5, c6, c7, c8, c9, c10]).cells.toList.drop 7).take (Tryd.prog.cellsOf 23)) = some y7 := hg 7 _ rfl
      rw [kIns] at g7
      have f7 : DataW.trod enc Tryd.prog W base spare held m 23 [c7] = some y7 := g7
      have g8 : DataW.trod enc Tryd.prog W base spare held m 24 (((Value.agg #[c0, c1, c2, c3, c4, c5, c6, c7, c8, c9, c10]).cells.toList.drop 8).take (Tryd.prog.cellsOf 24)) = some y8 := hg 8 _ rfl
      rw [kPrs] at g8
      have f8 : DataW.trod enc Tryd.prog W base spare held m 24 [c8] = some y8 := g8
      have g9 : DataW.trod enc Tryd.prog W base spare held m 22 (((Value.agg #[c0, c1, c2, c3, c4, c5, c6, c7, c8, c9, c10]).cells.toList.drop 9).take (Tryd.prog.cellsOf 22)) = some y9 := hg 9 _ rfl
      rw [kU64] at g9
      have f9 : DataW.trod enc Tryd.prog W base spare held m 22 [c9] = some y9 := g9
      have g10 : DataW.trod enc Tryd.prog W base spare held m 22 (((Value.agg #[c0, c1, c2, c3, c4, c5, c6, c7, c8, c9, c10]).cells.toList.drop 10).take (Tryd.prog.cellsOf 22)) = some y10 := hg 10 _ rfl
      rw [kU64] at g10
      have f10 : DataW.trod enc Tryd.prog W base spare held m 22 [c10] = some y10 := g10
      obtain ⟨a0, rfl, l0⟩ := cell_int f0
      obtain ⟨a1, rfl, l1⟩ := cell_u8 f1
      obtain ⟨a2, rfl, l2⟩ := cell_u64 f2
      obtain ⟨a3, rfl, l3⟩ := cell_u64 f3
      obtain ⟨a4, rfl, l4⟩ := cell_u64 f4
      obtain ⟨a5, rfl, l5⟩ := cell_u64 f5
      obtain ⟨a6, rfl, l6⟩ := cell_u64 f6
      obtain ⟨b7, n7, e7, rfl⟩ : ∃ b n e, c7 = .slice b n e := by
        rcases DataW.trod_slice Tryd.underlying23 f7 with ⟨e, _⟩ | ⟨a, len, cap, _, _, _, _, e, _⟩
        · cases e; exact ⟨_, _, _, rfl⟩
        · cases e; exact ⟨_, _, _, rfl⟩
      obtain ⟨m7, s7, l7⟩ := open_ins f7
      obtain ⟨b8, n8, e8, rfl⟩ : ∃ b n e, c8 = .slice b n e := by
        rcases DataW.trod_slice Tryd.underlying24 f8 with ⟨e, _⟩ | ⟨a, len, cap, _, _, _, _, e, _⟩
        · cases e; exact ⟨_, _, _, rfl⟩
        · cases e; exact ⟨_, _, _, rfl⟩
      obtain ⟨m8, s8, l8⟩ := open_prs f8
      obtain ⟨a9, rfl, l9⟩ := cell_u64 f9
      obtain ⟨a10, rfl, l10⟩ := cell_u64 f10
      refine ⟨⟨a0, a1, a2, a3, a4, a5, a6, s7, s8, a9, a10⟩, b7, b8, n7, n8, e7, e8, rfl, ⟨l0, l1, l2, l3, l4, l5, l6, l9, l10⟩, m7.1, m8.1, l7, l8, fun hw => ?_⟩
      have hd : d = .agg [y0.1, y1.1, y2.1, y3.1, y4.1, y5.1, y6.1, y7.1, y8.1, y9.1, y10.1] := congrArg Prod.fst hx
      rw [hd] at hw
      simp only [DataW.weights, Tryd.underlying26, List.map_cons, List.map_nil, DataW.weightsEach, List.all_append, Bool.and_eq_true] at hw
      exact ⟨m7.2 hw.2.2.2.2.2.2.2.1, m8.2 hw.2.2.2.2.2.2.2.2.1⟩
end
end Go.Proofs.YtdgbililgkhjfaaDoor.Pk
