/- Lists of inputs and of pairs in memory; which of them may not be: walked. Conditions: the lists lie there. -/
import Derived.Test.YtdgbililgkhjfaaDoorPk0
import Derived.Test.YtdgbililgkhjfaaDoorFrameC
import Derived.Test.YtdgbililgkhjfaaDoorDraw
import Derived.Deep.Slices
namespace Go.Proofs.YtdgbililgkhjfaaDoor.Pk
open Go.RowKit Go.Proofs.YtdgbililgkhjfaaDoor.Crc Go.Proofs.YtdgbililgkhjfaaDoor.Codec Go.Proofs.YtdgbililgkhjfaaDoor.CrcWalk
set_option linter.unusedVariables false
/-- A list of inputs. -/
def Ins (w : World) (v : Value) (l : List UInt8) : Prop := ∃ b c, v = .slice b l.length c ∧ l.length ≤ 1000000 ∧ ∀ i (h : i < l.length), ∃ g o, b = some ⟨g, o, none⟩ ∧ g < w.heap.size ∧ w.cell? ⟨g, o + i, none⟩ = some (.int .u8 (l[i]).toNat)
/-- A list of pairs. -/
def Prs (w : World) (v : Value) (l : List (UInt8 × UInt8)) : Prop :=
  ∃ b c, v = .slice b l.length c ∧ l.length ≤ 1000000 ∧ ∀ i (h : i < l.length), ∃ g o, b = some ⟨g, o, none⟩ ∧ g < w.heap.size ∧ w.cell? ⟨g, o + i * 2, none⟩ = some (.int .u8 (l[i]).1.toNat) ∧ w.cell? ⟨g, o + i * 2 + 1, none⟩ = some (.int .u8 (l[i]).2.toNat)
theorem Ins.below {w w' : World} {v : Value} {l : List UInt8} (h : Ins w v l) (hb : Below w.heap.size w w') : Ins w' v l := by
  obtain ⟨b, c, hv, hl, hc⟩ := h
  refine ⟨b, c, hv, hl, fun i hi => ?_⟩
  obtain ⟨g, o, h1, h2, h3⟩ := hc i hi
  exact ⟨g, o, h1, Nat.lt_of_lt_of_le h2 hb.size, (hb.cell (p := ⟨g, o + i, none⟩) h2).trans h3⟩
theorem Prs.below {w w' : World} {v : Value} {l : List (UInt8 × UInt8)} (h : Prs w v l) (hb : Below w.heap.size w w') : Prs w' v l := by
  obtain ⟨b, c, hv, hl, hc⟩ := h
  refine ⟨b, c, hv, hl, fun i hi => ?_⟩
  obtain ⟨g, o, h1, h2, h3, h4⟩ := hc i hi
  exact ⟨g, o, h1, Nat.lt_of_lt_of_le h2 hb.size, (hb.cell (p := ⟨g, o + i * 2, none⟩) h2).trans h3, (hb.cell (p := ⟨g, o + i * 2 + 1, none⟩) h2).trans h4⟩
set_option maxRecDepth 100000 in
theorem legal_any (n : Nat) (w : World) (hn : n < 256) :
    Calls Tryd.prog 88 #[.int .u8 n] w fun r w' => r = .returned (.bool (decide (n < 64))) ∧ w = w' := by
  go_enter Tryd.func88, Tryd.ntmps88
  go_wp2
  go_ret
  refine ⟨?_, rfl⟩
  show Ending.returned (.bool (decide ((n : Int) < 64))) = _
  rw [show decide ((n : Int) < 64) = decide (n < 64) from decide_eq_decide.2 (by omega)]
/-- An input that may not be. -/
def bad1 (b : UInt8) : Bool := !decide (b.toNat < 64)
set_option maxRecDepth 100000 in
theorem illegal_any (b : UInt8) (w : World) :
    Calls Tryd.prog 87 #[.int .u8 b.toNat] w fun r w' => r = .returned (.bool (bad1 b)) ∧ w = w' := by
  have hl := fun W => legal_any b.toNat W b.toNat_lt
  have hb : bad1 b = !decide (b.toNat < 64) := rfl
  rw [hb]
  generalize decide (b.toNat < 64) = B at *
  have HL := Lib.hid hl
  clear hl hb
  go_enter Tryd.func87, Tryd.ntmps87
  go_wp2_with fail
  refine (HL.out _).mono ?_
  rintro e w' ⟨rfl, rfl⟩
  go_wp2
  go_ret
  exact ⟨rfl, rfl⟩
theorem any_take {α : Type} (p : α → Bool) (l : List α) (k : Nat) (h : k < l.length) : (l.take (k + 1)).any p = ((l.take k).any p || p l[k]) := by
  rw [List.take_succ_eq_append_getElem h, List.any_append, List.any_cons, List.any_nil, Bool.or_false]
theorem any_of_take {α : Type} (p : α → Bool) (l : List α) (k : Nat) (h : (l.take k).any p = true) : l.any p = true := by
  rw [List.any_eq_true] at h ⊢
  obtain ⟨x, hx, hb⟩ := h
  exact ⟨x, List.mem_of_mem_take hx, hb⟩
/-- A place, if any is there. -/
def At (b : Bool) (w : World) (e : Ending) (w' : World) : Prop := ∃ r : Int, e = .returned (.int .i64 r) ∧ decide (0 ≤ r) = b ∧ w = w'
set_option maxRecDepth 100000 in
theorem index1 (v : Value) (l : List UInt8) (w : World) (h : Ins w v l) :
    Calls Tryd.prog 109 #[v, .func (.func 87) #[] #[]] w (At (l.any bad1) w) := by
  obtain ⟨b, c, rfl, hl, hc⟩ := h
  have HC := Lib.hid hc
  clear hc
  go_enter Tryd.func109, Tryd.ntmps109
  go_wp2
  go_loop [5, 8] (fun _ i => ∃ k : Nat, k ≤ l.length ∧ i = .int .i64 k ∧ (l.take k).any bad1 = false) (fun _ i => l.length - (intOf i).toNat)
  case atStart => exact ⟨0, Nat.zero_le _, rfl, rfl⟩
  case round =>
    obtain ⟨k, hk, rfl, hno⟩ := hrel
    by_cases hlt : k < l.length
    · obtain ⟨g, o, rfl, ha, hcell⟩ := HC.out k hlt
      have hsn : (l.take (k + 1)).any bad1 = ((l.take k).any bad1 || bad1 l[k]) := any_take bad1 l k hlt
      have hall := any_of_take bad1 l (k + 1)
      rw [hno, Bool.false_or] at hsn
      have hcall := fun W => illegal_any l[k] W
      have HCALL := Lib.hid hcall
      generalize l[k] = x at *
      have HS := Lib.hid hsn
      have HA := Lib.hid hall
      clear hsn hall hcall hno
      go_wp2_with fail
      refine (HCALL.out _).mono ?_
      rintro e w' ⟨rfl, rfl⟩
      cases hx : bad1 x with
      | true =>
        go_wp2
        go_ret
        exact ⟨(k : Int), rfl, by rw [HA.out (by rw [HS.out, hx])]; simp, rfl⟩
      | false =>
        go_wp2
        go_round
        case rel => exact ⟨k + 1, by omega, by go_num, by rw [HS.out, hx]⟩
        case measure => simp [intOf]; omega
    · obtain rfl : k = l.length := by omega
      rw [List.take_length] at hno
      have HN := Lib.hid hno
      clear hno
      go_wp2
      go_ret
      exact ⟨-1, rfl, by rw [HN.out]; rfl, rfl⟩
set_option maxRecDepth 100000 in
theorem contains1 (v : Value) (l : List UInt8) (w : World) (h : Ins w v l) :
    Calls Tryd.prog 90 #[v, .func (.func 87) #[] #[]] w fun e w' => e = .returned (.bool (l.any bad1)) ∧ w = w' := by
  have HI := Lib.hid (index1 v l w h)
  generalize l.any bad1 = B at *
  clear h
  go_enter Tryd.func90, Tryd.ntmps90
  go_wp2_with fail
  refine HI.out.mono ?_
  rintro e w' ⟨r, rfl, hr, rfl⟩
  have HR := Lib.hid hr
  clear hr
  go_wp2
  go_ret
  exact ⟨by rw [← HR.out]; rfl, rfl⟩
/-- A pair that may not be. -/
def bad2 (p : UInt8 × UInt8) : Bool := bad1 p.1 || bad1 p.2
set_option maxRecDepth 100000 in
theorem badpair (p : UInt8 × UInt8) (c : Addr) (w : World) (hc : w.cell? c = some (.func (.func 87) #[] #[])) :
    Calls Tryd.prog 89 #[.agg #[.int .u8 p.1.toNat, .int .u8 p.2.toNat], .pointer (some c)] w fun r w' => r = .returned (.bool (bad2 p)) ∧ Below w.heap.size w w' := by
  have h1 := fun W => illegal_any p.1 W
  have h2 := fun W => illegal_any p.2 W
  have hb : bad2 p = (bad1 p.1 || bad1 p.2) := rfl
  have hlt : c.block < w.heap.size := World.block_lt_of_cell? w _ hc
  rw [hb]
  generalize bad1 p.1 = B1 at *
  generalize bad1 p.2 = B2 at *
  have H1 := Lib.hid h1
  have H2 := Lib.hid h2
  clear h1 h2 hb
  have hc' : (w.alloc (.cells #[.int .u8 p.1.toNat, .int .u8 p.2.toNat] 44)).cell? c = some (.func (.func 87) #[] #[]) := (World.cell?_alloc_lt w _ c hlt).trans hc
  cases B1 with
  | true =>
    go_enter Tryd.func89, Tryd.ntmps89
    go_wp2_with fail
    refine (H1.out _).mono ?_
    rintro e w' ⟨rfl, rfl⟩
    go_wp2
    go_ret
    exact ⟨rfl, (Below.refl _ w).alloc (Nat.le_refl _) _⟩
  | false =>
    go_enter Tryd.func89, Tryd.ntmps89
    go_wp2_with fail
    refine (H1.out _).mono ?_
    rintro e w' ⟨rfl, rfl⟩
    go_wp2_with fail
    refine (H2.out _).mono ?_
    rintro e w' ⟨rfl, rfl⟩
    go_wp2
    go_ret
    exact ⟨rfl, (Below.refl _ w).alloc (Nat.le_refl _) _⟩
/-- A place, if any is there; the world has grown. -/
def AtB (b : Bool) (w : World) (e : Ending) (w' : World) : Prop := ∃ r : Int, e = .returned (.int .i64 r) ∧ decide (0 ≤ r) = b ∧ Below w.heap.size w w'
set_option maxRecDepth 100000 in
theorem index2 (v : Value) (l : List (UInt8 × UInt8)) (f : Addr) (w : World) (h : Prs w v l) (hf : w.cell? f = some (.func (.func 87) #[] #[])) :
    Calls Tryd.prog 110 #[v, .func (.func 89) #[] #[.pointer (some f)]] w (AtB (l.any bad2) w) := by
  obtain ⟨b, c, rfl, hl, hc⟩ := h
  have HC := Lib.hid hc
  have HF := Lib.hid hf
  have hft : f.block < w.heap.size := World.block_lt_of_cell? w _ hf
  clear hc hf
  go_enter Tryd.func110, Tryd.ntmps110
  go_wp2
  go_loopw [5, 8] (fun _ i wr => ∃ k : Nat, k ≤ l.length ∧ i = .int .i64 k ∧ (l.take k).any bad2 = false ∧ Below w.heap.size w wr) (fun _ i _ => l.length - (intOf i).toNat)
  case atStart => exact ⟨0, Nat.zero_le _, rfl, rfl, Below.refl _ _⟩
  case round =>
    obtain ⟨k, hk, rfl, hno, hbel⟩ := hrel
    by_cases hlt : k < l.length
    · obtain ⟨g, o, rfl, ha, hc1, hc2⟩ := HC.out k hlt
      have hsn := any_take bad2 l k hlt
      have hall := any_of_take bad2 l (k + 1)
      rw [hno, Bool.false_or] at hsn
      have hfr : wr.cell? f = some (.func (.func 87) #[] #[]) := (hbel.cell (p := f) hft).trans HF.out
      have hcall := badpair l[k] f wr hfr
      have d1 : wr.cell? ⟨g, o + k * 2, none⟩ = some (.int .u8 (l[k]).1.toNat) := (hbel.cell (p := ⟨g, o + k * 2, none⟩) ha).trans hc1
      have d2 : wr.cell? ⟨g, o + k * 2 + 1, none⟩ = some (.int .u8 (l[k]).2.toNat) := (hbel.cell (p := ⟨g, o + k * 2 + 1, none⟩) ha).trans hc2
      have HCALL := Lib.hid hcall
      generalize l[k] = x at *
      have HS := Lib.hid hsn
      have HA := Lib.hid hall
      have HB := Lib.hid hbel
      clear hsn hall hcall hno hc1 hc2 hbel hfr
      go_wp2_with fail
      refine HCALL.out.mono ?_
      rintro e w1 ⟨rfl, hb1⟩
      have hB1 : Below w.heap.size w w1 := HB.out.trans (hb1.mono HB.out.size)
      have HB1 := Lib.hid hB1
      clear hb1 hB1
      cases hx : bad2 x with
      | true =>
        go_wp2
        go_ret
        exact ⟨(k : Int), rfl, by rw [HA.out (by rw [HS.out, hx])]; simp, HB1.out⟩
      | false =>
        go_wp2
        go_roundw
        case rel => exact ⟨k + 1, by omega, by go_num, by rw [HS.out, hx], HB1.out⟩
        case measure => simp [intOf]; omega
    · obtain rfl : k = l.length := by omega
      rw [List.take_length] at hno
      have HN := Lib.hid hno
      have HB := Lib.hid hbel
      clear hno hbel
      go_wp2
      go_ret
      exact ⟨-1, rfl, by rw [HN.out]; rfl, HB.out⟩
set_option maxRecDepth 100000 in
theorem contains2 (v : Value) (l : List (UInt8 × UInt8)) (f : Addr) (w : World) (h : Prs w v l) (hf : w.cell? f = some (.func (.func 87) #[] #[])) :
    Calls Tryd.prog 91 #[v, .func (.func 89) #[] #[.pointer (some f)]] w fun e w' => e = .returned (.bool (l.any bad2)) ∧ Below w.heap.size w w' := by
  have HI := Lib.hid (index2 v l f w h hf)
  generalize l.any bad2 = B at *
  clear h hf
  go_enter Tryd.func91, Tryd.ntmps91
  go_wp2_with fail
  refine HI.out.mono ?_
  rintro e w' ⟨r, rfl, hr, hb⟩
  have HR := Lib.hid hr
  have HB := Lib.hid hb
  clear hr hb
  go_wp2
  go_ret
  exact ⟨by rw [← HR.out]; rfl, HB.out⟩
end Go.Proofs.YtdgbililgkhjfaaDoor.Pk
