/- slices.Clone and grown, at lists of inputs and of pairs: walked. Conditions: the lists lie in memory. -/
import Derived.Test.YtdgbililgkhjfaaDoorPkD
import Derived.Lib.AppendZeros
namespace Go.Proofs.YtdgbililgkhjfaaDoor.Pk
open Go.RowKit Go.Proofs.YtdgbililgkhjfaaDoor.Crc Go.Proofs.YtdgbililgkhjfaaDoor.Codec Go.Proofs.YtdgbililgkhjfaaDoor.CrcWalk
set_option linter.unusedVariables false
theorem infoI : (Tryd.prog.info? 42).map (fun i => (i.zero, i.size, i.bytes)) = some (some (.int .u8 0), 1, 1) := by kernel_rfl
theorem infoP : (Tryd.prog.info? 44).map (fun i => (i.zero, i.size, i.bytes)) = some (some (.agg #[.int .u8 0, .int .u8 0]), 2, 2) := by kernel_rfl
theorem bel1 (W : World) (o : Obj) : Below W.heap.size W (W.alloc o) := (Below.refl _ W).alloc (Nat.le_refl _) o
theorem own_empty (w : World) (e : TypeId) (sz : Nat) : (w.alloc (.cells #[] e)).ownsRow w.heap.size e sz (.slice (some ⟨w.heap.size, 0, none⟩) 0 0) 0 [] :=
  ⟨by simp, .inr ⟨w.heap.size, 0, #[], rfl, Nat.le_refl _, heap_alloc_new w _, Nat.le_refl _, Nat.zero_le _, by simp, by simp⟩⟩
theorem add_at (g o j : Nat) : (⟨g, o, none⟩ : Addr).add j = ⟨g, o + j, none⟩ := by unfold Addr.add; split <;> simp_all
theorem Ins.news {w : World} {g o c : Nat} {l : List UInt8} (h : Ins w (.slice (some ⟨g, o, none⟩) l.length c) l) : ∀ j u, (l.map bc)[j]? = some u → w.cell? ((⟨g, o, none⟩ : Addr).add j) = some u := by
  obtain ⟨b, c', hv, hl, hc⟩ := h
  cases hv
  intro j u hu
  have hj : j < l.length := by
    have := (List.getElem?_eq_some_iff.1 hu).1
    simpa using this
  obtain ⟨g', o', e, _, h3⟩ := hc j hj
  cases e
  rw [add_at, h3]
  rw [List.getElem?_map, List.getElem?_eq_getElem hj] at hu
  exact hu
theorem Ins.len {w : World} {v : Value} {l : List UInt8} (h : Ins w v l) : l.length ≤ 1000000 := by
  obtain ⟨b, c, _, hl, _⟩ := h
  exact hl
set_option maxRecDepth 100000 in
theorem clone1_some (g o c : Nat) (l : List UInt8) (w : World) (hl : 0 < l.length) (h : Ins w (.slice (some ⟨g, o, none⟩) l.length c) l) :
    Calls Tryd.prog 112 #[.slice (some ⟨g, o, none⟩) l.length c] w fun e w' => (∃ v, e = .returned v ∧ w'.ownsRow w.heap.size 42 1 v l.length (l.map bc)) ∧ Below w.heap.size w w' := by
  obtain ⟨i0, hi, hz0, hz1, hz2⟩ := info_parts infoI
  have hN := (h.below (bel1 w (.cells #[] 42))).news
  have hO : ∀ u ∈ l.map bc, u.oneCell' = true := bc_one l
  have hl6 := h.len
  clear h
  have hnil := fun W => Lib.run_eql_slice_nil (P := Tryd.prog) W 23 42 (some ⟨g, o, none⟩) l.length c 0 0 Tryd.underlying23
  go_enter Tryd.func112, Tryd.ntmps112
  go_wp2_with (at_builtin; refine wpList_append_own _ rfl (.tmp 5) (.tmp 6) 23 rfl w.heap.size 42 i0 (.int .u8 0) 1 1 Tryd.underlying23 hi hz0 hz1 hz2 rfl (by decide) _ 0 [] rfl (own_empty w _ 1) ⟨g, o, none⟩ l.length c (l.map bc) rfl (by simp) hN hO (by unfold maxLen; omega) (by omega) (by simp) ?_; intro v' w1 hown1 hgrow1 _)
  have hB : Below w.heap.size w w1 := ((Below.refl _ w).alloc (Nat.le_refl _) _).grown hgrow1 (by simp) (fun k e => by cases e; exact Nat.le_refl _)
  rw [Nat.zero_add, List.nil_append] at hown1
  have HB := Lib.hid hB
  have HO1 := Lib.hid hown1
  clear hB hown1 hgrow1
  go_wp2
  go_ret
  exact ⟨⟨v', rfl, HO1.out⟩, HB.out⟩
/-- A row of memory: n elements of sz cells, of c that there is room for. -/
def Rw (w : World) (e : TypeId) (sz g n c : Nat) (xs : List Value) : Prop := ∃ cur, w.heap[g]? = some (.cells cur e (0, 0)) ∧ n ≤ c ∧ c ≤ maxLen ∧ cur.size = c * sz ∧ cur.toList.take (n * sz) = xs
theorem Rw.of_own {w : World} {B e sz n : Nat} {v : Value} {xs : List Value} (h : w.ownsRow B e sz v n xs) (hn : 0 < n) : ∃ g c, v = .slice (some ⟨g, 0, none⟩) n c ∧ B ≤ g ∧ Rw w e sz g n c xs := by
  rcases h.2 with ⟨_, h0⟩ | ⟨g, c, cur, hv, hB, hg, h1, h2, h3, h4⟩
  · omega
  · exact ⟨g, c, hv, hB, cur, hg, h1, h2, h3, h4⟩
theorem Rw.lt {w : World} {e : TypeId} {sz g n c : Nat} {xs : List Value} (h : Rw w e sz g n c xs) : g < w.heap.size := by
  obtain ⟨cur, hg, _⟩ := h
  exact lt_of_block hg
theorem Rw.keep {w w' : World} {e : TypeId} {sz g n c : Nat} {xs : List Value} (h : Rw w e sz g n c xs) (hb : w'.heap[g]? = w.heap[g]?) : Rw w' e sz g n c xs := by
  obtain ⟨cur, hg, hr⟩ := h
  exact ⟨cur, hb.trans hg, hr⟩
theorem run_append_zero {w : World} (t tn ty e : TypeId) (i : TypeInfo) (kn : IntKind) (ht : Tryd.prog.underlying t = some (.slice e)) (htn : Tryd.prog.underlying tn = some (.int kn)) (hi : Tryd.prog.info? e = some i) (b : Option Addr) (n c : Nat) (h : n ≤ c) (k : IntKind) :
    (Builtin.append_ #[t, tn] ty #[.slice b n c, .int k 0]).run Tryd.prog w = .ok (.slice b n c) w := by
  have hw : IntKind.i64.wrap 0 = 0 := by decide
  cases b <;> simp [Builtin.append_, run_underlying ht, run_underlying htn, sizeOf, typeInfo, hi, asInt, asIntOf, hw, h, storeCells]
set_option maxRecDepth 100000 in
theorem clone1_nil (w : World) :
    Calls Tryd.prog 112 #[.slice none 0 0] w fun e w' => e = .returned (.slice none 0 0) ∧ w = w' := by
  have hnil := fun W => Lib.run_eql_slice_nil (P := Tryd.prog) W 23 42 none 0 0 0 0 Tryd.underlying23
  go_enter Tryd.func112, Tryd.ntmps112
  go_wp2
  go_ret
  exact ⟨rfl, rfl⟩
set_option maxRecDepth 100000 in
theorem grown1_zero (v : Value) (w : World) :
    Calls Tryd.prog 93 #[v, .int .i64 0] w fun e w' => e = .returned (.slice none 0 0) ∧ w = w' := by
  go_enter Tryd.func93, Tryd.ntmps93
  go_wp2
  go_ret
  exact ⟨rfl, rfl⟩
set_option maxRecDepth 100000 in
theorem grown1_copy (g o c : Nat) (l : List UInt8) (w : World) (hl : 0 < l.length) (h : Ins w (.slice (some ⟨g, o, none⟩) l.length c) l) :
    Calls Tryd.prog 93 #[.slice (some ⟨g, o, none⟩) l.length c, .int .i64 l.length] w fun e w' => (∃ g' c', e = .returned (.slice (some ⟨g', 0, none⟩) l.length c') ∧ w.heap.size ≤ g' ∧ Rw w' 42 1 g' l.length c' (l.map bc)) ∧ Below w.heap.size w w' := by
  have HC := Lib.hid (clone1_some g o c l w hl h)
  have hl6 := h.len
  obtain ⟨i0, hi, hz0, hz1, hz2⟩ := info_parts infoI
  obtain ⟨n, hn⟩ : ∃ n, n = l.length := ⟨_, rfl⟩
  rw [← hn] at HC hl hl6 ⊢
  have hne : ((n : Int) == 0) = false := by rw [beq_eq_false_iff_ne]; omega
  clear h hn
  go_enter Tryd.func93, Tryd.ntmps93
  go_wp2_with fail
  refine HC.out.mono ?_
  rintro e w1 ⟨⟨v, rfl, hown⟩, hb⟩
  obtain ⟨g', c', rfl, hg', hrw⟩ := Rw.of_own hown hl
  have hnc : n ≤ c' := by obtain ⟨cur, _, h1, _⟩ := hrw; exact h1
  have hc63 : c' ≤ 9223372036854775807 := by obtain ⟨cur, _, _, h1, _⟩ := hrw; exact h1
  have HB := Lib.hid hb
  have HR := Lib.hid hrw
  clear hb hrw hown
  go_wp2_with (at_builtin; refine Lib.wpList_append_run _ rfl (.tmp 8) (.tmp 13) 23 3 rfl (.slice (some ⟨g', 0, none⟩) n c') (.int .i64 0) rfl rfl _ w1 (run_append_zero 23 3 _ 42 i0 .i64 Tryd.underlying23 Tryd.underlying3 hi (some ⟨g', 0, none⟩) n c' hnc .i64) ?_)
  go_ret
  exact ⟨⟨g', c', rfl, hg', HR.out⟩, HB.out⟩
theorem zeroCells_one (z : Value) (n : Nat) : (Builtin.zeroCells #[z] n).toList = List.replicate n z := by
  apply List.ext_getElem
  · simp [Builtin.zeroCells]
  · intro i h1 h2
    simp [Builtin.zeroCells, Nat.mod_one]
theorem Rw.zeros {w : World} {e : TypeId} {i : TypeInfo} {n : Nat} (hn : n ≤ 1000000) : Rw (w.drew.alloc (.cells (Builtin.zeroCells #[.int .u8 0] n ++ Builtin.zeroCells #[.int .u8 0] (grownCap w n 0 e - n)) e)) e 1 w.heap.size n (grownCap w n 0 e) (List.replicate n (.int .u8 0)) := by
  have h1 := grownCap_ge w n 0 e
  have h2 := grownCap_le_maxLen w n 0 e (by unfold maxLen; omega)
  refine ⟨_, heap_alloc_new w.drew _, h1, h2, ?_, ?_⟩
  · simp [Builtin.zeroCells]; omega
  · rw [Nat.mul_one, Array.toList_append, zeroCells_one, zeroCells_one]
    exact List.take_left' (by simp)
set_option maxRecDepth 100000 in
theorem grown1_new (n : Nat) (w : World) (hl : 0 < n) (hl6 : n ≤ 1000000) :
    Calls Tryd.prog 93 #[.slice none 0 0, .int .i64 n] w fun e w' => (∃ g' c', e = .returned (.slice (some ⟨g', 0, none⟩) n c') ∧ w.heap.size ≤ g' ∧ Rw w' 42 1 g' n c' (List.replicate n (.int .u8 0))) ∧ Below w.heap.size w w' := by
  have HC := Lib.hid (clone1_nil w)
  have hne : ((n : Int) == 0) = false := by rw [beq_eq_false_iff_ne]; omega
  obtain ⟨i0, hi, hz0, hz1, hz2⟩ := info_parts infoI
  have hrun := Lib.run_append_nil_zeros (P := Tryd.prog) w 23 3 23 42 i0 (.int .u8 0) .i64 .i64 Tryd.underlying23 Tryd.underlying3 hi hz0 n hl (by rw [hz1]; decide) (by omega) (by rw [hz2]; omega)
  have hR := Rw.zeros (w := w) (e := 42) (i := i0) hl6
  have hB : Below w.heap.size w (w.drew.alloc (.cells (Builtin.zeroCells #[.int .u8 0] n ++ Builtin.zeroCells #[.int .u8 0] (grownCap w n 0 42 - n)) 42)) := ((Below.refl _ w).drew).alloc (Nat.le_refl _) _
  rw [show (Value.int .u8 0).cells = #[.int .u8 0] from rfl] at hrun
  have hcn := grownCap_ge w n 0 42
  have hcm : grownCap w n 0 42 ≤ 9223372036854775807 := grownCap_le_maxLen w n 0 _ (by unfold maxLen; omega)
  generalize w.drew.alloc (.cells (Builtin.zeroCells #[.int .u8 0] n ++ Builtin.zeroCells #[.int .u8 0] (grownCap w n 0 42 - n)) 42) = W1 at *
  generalize grownCap w n 0 42 = cap at *
  have HRUN := Lib.hid hrun
  have HR := Lib.hid hR
  have HB := Lib.hid hB
  have hmx : max (0 : Int) (n : Int) = n := by omega
  clear hrun hR hB
  go_enter Tryd.func93, Tryd.ntmps93
  go_wp2_with fail
  refine HC.out.mono ?_
  rintro e w1 ⟨rfl, rfl⟩
  go_wp2_with (at_builtin; refine Lib.wpList_append_run _ rfl (.tmp 8) (.tmp 13) 23 3 rfl (.slice none 0 0) (.int .i64 n) rfl rfl _ W1 HRUN.out ?_)
  go_ret
  exact ⟨⟨w.heap.size, cap, rfl, Nat.le_refl _, HR.out⟩, HB.out⟩
/-- Pairs as cells. -/
def pcells : List (UInt8 × UInt8) → List Value
  | [] => []
  | p :: l => bc p.1 :: bc p.2 :: pcells l
theorem pcells_length : ∀ l, (pcells l).length = 2 * l.length
  | [] => rfl
  | p :: l => by simp only [pcells, List.length_cons, pcells_length l]; omega
theorem pcells_flat : ∀ l, pcells l = (flat l).map bc
  | [] => rfl
  | p :: l => by simp only [pcells, flat, List.map_cons, pcells_flat l]
theorem pcells_one (l : List (UInt8 × UInt8)) : ∀ u ∈ pcells l, u.oneCell' = true := by rw [pcells_flat]; exact bc_one _
theorem pcells_get : ∀ (l : List (UInt8 × UInt8)) (j : Nat), (pcells l)[j]? = (l[j / 2]?).map fun p => if j % 2 = 0 then bc p.1 else bc p.2
  | [], j => by simp [pcells]
  | p :: l, 0 => rfl
  | p :: l, 1 => rfl
  | p :: l, j + 2 => by
    have ih := pcells_get l j
    have e1 : (j + 2) / 2 = j / 2 + 1 := by omega
    have e2 : (j + 2) % 2 = j % 2 := by omega
    rw [e1, e2]
    simpa [pcells] using ih
theorem Prs.news {w : World} {g o c : Nat} {l : List (UInt8 × UInt8)} (h : Prs w (.slice (some ⟨g, o, none⟩) l.length c) l) : ∀ j u, (pcells l)[j]? = some u → w.cell? ((⟨g, o, none⟩ : Addr).add j) = some u := by
  obtain ⟨b, c', hv, hl, hc⟩ := h
  cases hv
  intro j u hu
  have hj : j / 2 < l.length := by
    have := (List.getElem?_eq_some_iff.1 hu).1
    rw [pcells_length] at this
    omega
  obtain ⟨g', o', e, _, h3, h4⟩ := hc (j / 2) hj
  cases e
  rw [pcells_get, List.getElem?_eq_getElem hj] at hu
  rw [add_at]
  by_cases h2 : j % 2 = 0
  · rw [show o + j = o + j / 2 * 2 by omega, h3]
    simp [h2] at hu
    rw [← hu]; rfl
  · rw [show o + j = o + j / 2 * 2 + 1 by omega, h4]
    simp [h2] at hu
    rw [← hu]; rfl
theorem Prs.len {w : World} {v : Value} {l : List (UInt8 × UInt8)} (h : Prs w v l) : l.length ≤ 1000000 := by
  obtain ⟨b, c, _, hl, _⟩ := h
  exact hl
set_option maxRecDepth 100000 in
theorem clone2_some (g o c : Nat) (l : List (UInt8 × UInt8)) (w : World) (hl : 0 < l.length) (h : Prs w (.slice (some ⟨g, o, none⟩) l.length c) l) :
    Calls Tryd.prog 113 #[.slice (some ⟨g, o, none⟩) l.length c] w fun e w' => (∃ v, e = .returned v ∧ w'.ownsRow w.heap.size 44 2 v l.length (pcells l)) ∧ Below w.heap.size w w' := by
  obtain ⟨i0, hi, hz0, hz1, hz2⟩ := info_parts infoP
  have hN := (h.below (bel1 w (.cells #[] 44))).news
  have hO : ∀ u ∈ pcells l, u.oneCell' = true := pcells_one l
  have hl6 := h.len
  clear h
  have hnil := fun W => Lib.run_eql_slice_nil (P := Tryd.prog) W 24 44 (some ⟨g, o, none⟩) l.length c 0 0 Tryd.underlying24
  go_enter Tryd.func113, Tryd.ntmps113
  go_wp2_with (at_builtin; refine wpList_append_own _ rfl (.tmp 5) (.tmp 6) 24 rfl w.heap.size 44 i0 (.agg #[.int .u8 0, .int .u8 0]) 2 2 Tryd.underlying24 hi hz0 hz1 hz2 rfl (by decide) _ 0 [] rfl (own_empty w _ 2) ⟨g, o, none⟩ l.length c (pcells l) rfl (by rw [pcells_length]; omega) hN hO (by unfold maxLen; omega) (by omega) (by simp) ?_; intro v' w1 hown1 hgrow1 _)
  have hB : Below w.heap.size w w1 := ((Below.refl _ w).alloc (Nat.le_refl _) _).grown hgrow1 (by simp) (fun k e => by cases e; exact Nat.le_refl _)
  rw [Nat.zero_add, List.nil_append] at hown1
  have HB := Lib.hid hB
  have HO1 := Lib.hid hown1
  clear hB hown1 hgrow1
  go_wp2
  go_ret
  exact ⟨⟨v', rfl, HO1.out⟩, HB.out⟩
set_option maxRecDepth 100000 in
theorem clone2_nil (w : World) :
    Calls Tryd.prog 113 #[.slice none 0 0] w fun e w' => e = .returned (.slice none 0 0) ∧ w = w' := by
  have hnil := fun W => Lib.run_eql_slice_nil (P := Tryd.prog) W 24 44 none 0 0 0 0 Tryd.underlying24
  go_enter Tryd.func113, Tryd.ntmps113
  go_wp2
  go_ret
  exact ⟨rfl, rfl⟩
set_option maxRecDepth 100000 in
theorem grown2_zero (v : Value) (w : World) :
    Calls Tryd.prog 94 #[v, .int .i64 0] w fun e w' => e = .returned (.slice none 0 0) ∧ w = w' := by
  go_enter Tryd.func94, Tryd.ntmps94
  go_wp2
  go_ret
  exact ⟨rfl, rfl⟩
set_option maxRecDepth 100000 in
theorem grown2_copy (g o c : Nat) (l : List (UInt8 × UInt8)) (w : World) (hl : 0 < l.length) (h : Prs w (.slice (some ⟨g, o, none⟩) l.length c) l) :
    Calls Tryd.prog 94 #[.slice (some ⟨g, o, none⟩) l.length c, .int .i64 l.length] w fun e w' => (∃ g' c', e = .returned (.slice (some ⟨g', 0, none⟩) l.length c') ∧ w.heap.size ≤ g' ∧ Rw w' 44 2 g' l.length c' (pcells l)) ∧ Below w.heap.size w w' := by
  have HC := Lib.hid (clone2_some g o c l w hl h)
  have hl6 := h.len
  obtain ⟨i0, hi, hz0, hz1, hz2⟩ := info_parts infoP
  obtain ⟨n, hn⟩ : ∃ n, n = l.length := ⟨_, rfl⟩
  rw [← hn] at HC hl hl6 ⊢
  have hne : ((n : Int) == 0) = false := by rw [beq_eq_false_iff_ne]; omega
  clear h hn
  go_enter Tryd.func94, Tryd.ntmps94
  go_wp2_with fail
  refine HC.out.mono ?_
  rintro e w1 ⟨⟨v, rfl, hown⟩, hb⟩
  obtain ⟨g', c', rfl, hg', hrw⟩ := Rw.of_own hown hl
  have hnc : n ≤ c' := by obtain ⟨cur, _, h1, _⟩ := hrw; exact h1
  have hc63 : c' ≤ 9223372036854775807 := by obtain ⟨cur, _, _, h1, _⟩ := hrw; exact h1
  have HB := Lib.hid hb
  have HR := Lib.hid hrw
  clear hb hrw hown
  go_wp2_with (at_builtin; refine Lib.wpList_append_run _ rfl (.tmp 8) (.tmp 13) 24 3 rfl (.slice (some ⟨g', 0, none⟩) n c') (.int .i64 0) rfl rfl _ w1 (run_append_zero 24 3 _ 44 i0 .i64 Tryd.underlying24 Tryd.underlying3 hi (some ⟨g', 0, none⟩) n c' hnc .i64) ?_)
  go_ret
  exact ⟨⟨g', c', rfl, hg', HR.out⟩, HB.out⟩
theorem zeroCells_two (z : Value) (n : Nat) : (Builtin.zeroCells #[z, z] n).toList = List.replicate (n * 2) z := by
  apply List.ext_getElem
  · simp [Builtin.zeroCells]
  · intro i h1 h2
    have h3 : i % 2 = 0 ∨ i % 2 = 1 := by omega
    rcases h3 with h3 | h3 <;> simp [Builtin.zeroCells, h3]
theorem Rw.zeros2 {w : World} {e : TypeId} {i : TypeInfo} {n : Nat} (hn : n ≤ 1000000) : Rw (w.drew.alloc (.cells (Builtin.zeroCells #[.int .u8 0, .int .u8 0] n ++ Builtin.zeroCells #[.int .u8 0, .int .u8 0] (grownCap w n 0 e - n)) e)) e 2 w.heap.size n (grownCap w n 0 e) (List.replicate (n * 2) (.int .u8 0)) := by
  have h1 := grownCap_ge w n 0 e
  have h2 := grownCap_le_maxLen w n 0 e (by unfold maxLen; omega)
  refine ⟨_, heap_alloc_new w.drew _, h1, h2, ?_, ?_⟩
  · simp [Builtin.zeroCells]; omega
  · rw [Array.toList_append, zeroCells_two, zeroCells_two]
    exact List.take_left' (by simp)
set_option maxRecDepth 100000 in
theorem grown2_new (n : Nat) (w : World) (hl : 0 < n) (hl6 : n ≤ 1000000) :
    Calls Tryd.prog 94 #[.slice none 0 0, .int .i64 n] w fun e w' => (∃ g' c', e = .returned (.slice (some ⟨g', 0, none⟩) n c') ∧ w.heap.size ≤ g' ∧ Rw w' 44 2 g' n c' (List.replicate (n * 2) (.int .u8 0))) ∧ Below w.heap.size w w' := by
  have HC := Lib.hid (clone2_nil w)
  have hne : ((n : Int) == 0) = false := by rw [beq_eq_false_iff_ne]; omega
  obtain ⟨i0, hi, hz0, hz1, hz2⟩ := info_parts infoP
  have hrun := Lib.run_append_nil_zeros (P := Tryd.prog) w 24 3 24 44 i0 (.agg #[.int .u8 0, .int .u8 0]) .i64 .i64 Tryd.underlying24 Tryd.underlying3 hi hz0 n hl (by rw [hz1]; decide) (by omega) (by rw [hz2]; omega)
  have hR := Rw.zeros2 (w := w) (e := 44) (i := i0) hl6
  have hB : Below w.heap.size w (w.drew.alloc (.cells (Builtin.zeroCells #[.int .u8 0, .int .u8 0] n ++ Builtin.zeroCells #[.int .u8 0, .int .u8 0] (grownCap w n 0 44 - n)) 44)) := ((Below.refl _ w).drew).alloc (Nat.le_refl _) _
  rw [show (Value.agg #[.int .u8 0, .int .u8 0]).cells = #[.int .u8 0, .int .u8 0] from rfl] at hrun
  have hcn := grownCap_ge w n 0 44
  have hcm : grownCap w n 0 44 ≤ 9223372036854775807 := grownCap_le_maxLen w n 0 _ (by unfold maxLen; omega)
  generalize w.drew.alloc (.cells (Builtin.zeroCells #[.int .u8 0, .int .u8 0] n ++ Builtin.zeroCells #[.int .u8 0, .int .u8 0] (grownCap w n 0 44 - n)) 44) = W1 at *
  generalize grownCap w n 0 44 = cap at *
  have HRUN := Lib.hid hrun
  have HR := Lib.hid hR
  have HB := Lib.hid hB
  have hmx : max (0 : Int) (n : Int) = n := by omega
  clear hrun hR hB
  go_enter Tryd.func94, Tryd.ntmps94
  go_wp2_with fail
  refine HC.out.mono ?_
  rintro e w1 ⟨rfl, rfl⟩
  go_wp2_with (at_builtin; refine Lib.wpList_append_run _ rfl (.tmp 8) (.tmp 13) 24 3 rfl (.slice none 0 0) (.int .i64 n) rfl rfl _ W1 HRUN.out ?_)
  go_ret
  exact ⟨⟨w.heap.size, cap, rfl, Nat.le_refl _, HR.out⟩, HB.out⟩
end Go.Proofs.YtdgbililgkhjfaaDoor.Pk
