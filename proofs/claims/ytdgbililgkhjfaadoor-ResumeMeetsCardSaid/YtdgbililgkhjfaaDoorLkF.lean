/- Acts in memory; 'few' and 'one' of the laws of the layer link: walked. Conditions: the acts lie in memory; the table. -/
import Derived.Test.YtdgbililgkhjfaaDoorLkE
import Derived.Test.YtdgbililgkhjfaaDoorPkD6
namespace Go.Proofs.YtdgbililgkhjfaaDoor.Lk
open Go.RowKit Go.Proofs.YtdgbililgkhjfaaDoor.Crc Go.Proofs.YtdgbililgkhjfaaDoor.Codec Go.Proofs.YtdgbililgkhjfaaDoor.Pk Go.Proofs.YtdgbililgkhjfaaDoor.CrcWalk Go.Proofs.YtdgbililgkhjfaaDoor.Frame
set_option linter.unusedVariables false
set_option linter.unusedSimpArgs false
abbrev PT := 26
abbrev AT := 59
/-- An act. -/
structure Ac where
  what : Nat
  k : K
  bi : Option Addr
  ni : Nat
  ci : Nat
  bp : Option Addr
  np : Nat
  cp : Nat
  now : Nat
  a : Nat
  b : Nat
  n : Int
def Ac.vi (x : Ac) : Value := .slice x.bi x.ni x.ci
def Ac.vp (x : Ac) : Value := .slice x.bp x.np x.cp
def Ac.cells (x : Ac) : Array Value := #[.int .u8 x.what, .int .i64 x.k.kind, .int .u8 x.k.player, .int .u64 x.k.epoch, .int .u64 x.k.dest, .int .u64 x.k.count, .int .u64 x.k.own, .int .u64 x.k.first, .slice x.bi x.ni x.ci, .slice x.bp x.np x.cp, .int .u64 x.k.frame, .int .u64 x.k.sum, .int .u64 x.now, .int .u64 x.a, .int .u64 x.b, .int .i64 x.n]
/-- The numbers are what their types bear; short lists lie in memory. -/
structure Ac.ok (W : World) (x : Ac) : Prop where
  what : x.what < 256
  k : x.k.wf
  now : x.now < 18446744073709551616
  a : x.a < 18446744073709551616
  b : x.b < 18446744073709551616
  n : -9223372036854775808 ≤ x.n ∧ x.n ≤ 9223372036854775807
  ins : x.ni ≤ 200 → Ins W x.vi x.k.ins
  prs : x.np ≤ 200 → Prs W x.vp x.k.prs
/-- Few inputs and pairs? -/
def Ac.few (x : Ac) : Prop := x.ni ≤ 200 ∧ x.np ≤ 200
instance (x : Ac) : Decidable x.few := by unfold Ac.few; infer_instance
/-- A slice of acts. -/
def Acts (w : World) (v : Value) (xs : List Ac) : Prop := ∃ b c, v = .slice b xs.length c ∧ xs.length ≤ maxLen ∧ ∀ i (h : i < xs.length), ∃ g o, b = some ⟨g, o, none⟩ ∧ g < w.heap.size ∧ w.rangeAt g (o + i * 16) (xs[i]).cells.toList ∧ (xs[i]).ok w
theorem range_below {w w' : World} {g o : Nat} {cs : List Value} (h : w.rangeAt g o cs) (hg : g < w.heap.size) (hb : Below w.heap.size w w') : w'.rangeAt g o cs := fun j v hv => (hb.cell (p := ⟨g, o + j, none⟩) hg).trans (h j v hv)
theorem Ac.ok.below {w w' : World} {x : Ac} (h : x.ok w) (hb : Below w.heap.size w w') : x.ok w' := ⟨h.what, h.k, h.now, h.a, h.b, h.n, fun q => (h.ins q).below hb, fun q => (h.prs q).below hb⟩
theorem Acts.below {w w' : World} {v : Value} {xs : List Ac} (h : Acts w v xs) (hb : Below w.heap.size w w') : Acts w' v xs := by
  obtain ⟨b, c, rfl, hl, hc⟩ := h
  refine ⟨b, c, rfl, hl, fun i hi => ?_⟩
  obtain ⟨g, o, h1, h2, h3, h4⟩ := hc i hi
  exact ⟨g, o, h1, Nat.lt_of_lt_of_le h2 hb.size, range_below h3 h2 hb, h4.below hb⟩
theorem Ac.cells_pk (x : Ac) {w : World} {g o : Nat} (h : w.rangeAt g o x.cells.toList) : w.rangeAt g (o + 1) (pc x.k x.vi x.vp).toList := fun j v hv => by
  have hj : j < 11 := by
    have := (List.getElem?_eq_some_iff.1 hv).1
    exact this
  rw [Nat.add_assoc]
  refine h (1 + j) v ?_
  rw [← hv]
  match j, hj with
  | 0, _ | 1, _ | 2, _ | 3, _ | 4, _ | 5, _ | 6, _ | 7, _ | 8, _ | 9, _ | 10, _ => rfl
theorem load_pk_mid {ops : Array Oper} {rest : List Oper} {op : Oper} {a : Act} {w : World} {Q : Exit → Act → World → Prop} (x : Operand) (b o : Nat) (k : K) (vi vp : Value) (hc : w.rangeAt b o (pc k vi vp).toList) (hgd : op.guard = none) (ho : op.op = .load PT x)
    (hx : a.eval x = .pointer (some ⟨b, o, none⟩)) (h : wpList Tryd.prog ops Q rest (a.put op.dst (.agg (pc k vi vp))) w) : wpList Tryd.prog ops Q (op :: rest) a w :=
  wpList_load_mid hgd PT x ho b o hx (pc k vi vp).toList _ hc Tryd.underlying26 rfl (pc_info k vi vp) h
theorem blk_range {w : World} {g : Nat} {cs : Array Value} {t : TypeId} (h : Blk w g cs t) : w.rangeAt g 0 cs.toList := fun j v hv => by
  rw [Nat.zero_add]
  exact h.cell v (by rw [← Array.getElem?_toList]; exact hv)
set_option maxRecDepth 100000 in
set_option maxHeartbeats 1000000 in
/-- What 'few' answers. -/
theorem fewl_any (v : Value) (xs : List Ac) (w : World) (h : Acts w v xs) :
    Calls Tryd.prog 29 #[v] w fun r w' => r = .returned (.bool (decide (xs.length ≤ 80 ∧ ∀ x ∈ xs, x.few))) ∧ w = w' := by
  obtain ⟨b, c, rfl, hlen, hcell⟩ := h
  obtain ⟨X, hX⟩ : ∃ X, X = decide (xs.length ≤ 80 ∧ ∀ x ∈ xs, x.few) := ⟨_, rfl⟩
  rw [← hX]
  have HX := Lib.hid hX
  have HCL := Lib.hid hcell
  unfold maxLen at hlen
  clear hcell hX
  go_enter Tryd.func29, Tryd.ntmps29
  go_wp2
  go_loop [3] (fun i => ∃ j : Nat, j ≤ xs.length ∧ j ≤ 90 ∧ i = .int .i64 j ∧ ∀ x ∈ xs.take j, x.few) (fun i => xs.length - (intOf i).toNat)
  case atStart => exact ⟨0, Nat.zero_le _, by decide, rfl, by simp⟩
  case round =>
    obtain ⟨j, hj, hj9, rfl, hfew⟩ := hrel
    by_cases hlt : j < xs.length
    · by_cases h90 : j < 90
      · obtain ⟨g, o, rfl, ha, hr, hok⟩ := HCL.out j hlt
        have hc8 : w.cell? ⟨g, o + j * 16 + 1 + 7, none⟩ = some (.slice (xs[j]).bi (xs[j]).ni (xs[j]).ci) := hr 8 _ rfl
        have hc9 : w.cell? ⟨g, o + j * 16 + 1 + 8, none⟩ = some (.slice (xs[j]).bp (xs[j]).np (xs[j]).cp) := hr 9 _ rfl
        have hsn : ∀ y ∈ xs.take (j + 1), y ∈ xs.take j ∨ y = xs[j] := fun y hy => by
          rw [List.take_succ_eq_append_getElem hlt] at hy
          exact (List.mem_append.1 hy).imp id List.mem_singleton.1
        have hmem : xs[j] ∈ xs := List.getElem_mem _
        generalize xs[j] = x at *
        have HSN := Lib.hid hsn
        have HM := Lib.hid hmem
        have HF := Lib.hid hfew
        clear hsn hmem hfew hr hok
        by_cases h1 : x.ni ≤ 200
        · have t1 : decide ((x.ni : Int) > 200) = false := decide_eq_false (by omega)
          by_cases h2 : x.np ≤ 200
          · have t2 : decide ((x.np : Int) > 200) = false := decide_eq_false (by omega)
            go_wp2
            go_round
            case rel => exact ⟨j + 1, by omega, by omega, by go_num, fun y hy => (HSN.out y hy).elim (HF.out y) (fun e => e ▸ ⟨h1, h2⟩)⟩
            case measure => simp [intOf]; omega
          · have t2 : decide ((x.np : Int) > 200) = true := decide_eq_true (by omega)
            go_wp2
            go_ret
            exact ⟨by rw [HX.out, decide_eq_false (fun hh => h2 (hh.2 x HM.out).2)]; rfl, rfl⟩
        · have t1 : decide ((x.ni : Int) > 200) = true := decide_eq_true (by omega)
          go_wp2
          go_ret
          exact ⟨by rw [HX.out, decide_eq_false (fun hh => h1 (hh.2 x HM.out).1)]; rfl, rfl⟩
      · have hno : decide ((xs.length : Int) ≤ 80) = false := decide_eq_false (by omega)
        have HQ := Lib.hid (show X = false from HX.out.trans (decide_eq_false fun hh => by omega))
        clear hfew
        go_wp2
        go_ret
        exact ⟨by rw [HQ.out]; simp, rfl⟩
    · obtain rfl : j = xs.length := by omega
      rw [List.take_length] at hfew
      have HQ := Lib.hid (show X = decide (xs.length ≤ 80) from HX.out.trans (decide_eq_decide.2 ⟨fun hh => hh.1, fun hh => ⟨hh, hfew⟩⟩))
      clear hfew
      go_wp2
      go_ret
      refine ⟨?_, rfl⟩
      rw [HQ.out]
      show Ending.returned (.bool (decide ((xs.length : Int) ≤ 80))) = _
      rw [show decide ((xs.length : Int) ≤ 80) = decide (xs.length ≤ 80) from decide_eq_decide.2 (by omega)]
theorem kp_cell {B p : Nat} {w w' : World} (hk : Kp B p w w') {b o : Nat} (hb : b < B) (hne : b ≠ p) : w'.cell? ⟨b, o, none⟩ = w.cell? ⟨b, o, none⟩ := World.cell?_of_block (hk.block b hb hne)
/-- Two links under way: the program's, the document's. -/
structure Dv (w : World) (g h : Nat) (l : L) (W : World) : Prop where
  a : Blk W g (lc l) LT
  b : Blk W h (rlc l) RL
  bel : Below w.heap.size w W
  og : w.heap.size ≤ g
  oh : w.heap.size ≤ h
  ne : g ≠ h
theorem Dv.call {w W W' : World} {g h : Nat} {l : L} (d : Dv w g h l W) (hb : Below W.heap.size W W') : Dv w g h l W' :=
  ⟨(hb.block _ d.a.lt).trans d.a, (hb.block _ d.b.lt).trans d.b, d.bel.trans (hb.mono d.bel.size), d.og, d.oh, d.ne⟩
/-- The program's link has turned, the document's not yet. -/
structure Dm (w : World) (g h : Nat) (l l' : L) (W : World) : Prop where
  a : Blk W g (lc l') LT
  b : Blk W h (rlc l) RL
  bel : Below w.heap.size w W
  og : w.heap.size ≤ g
  oh : w.heap.size ≤ h
  ne : g ≠ h
theorem Dv.prog {w W W' : World} {g h : Nat} {l l' : L} (d : Dv w g h l W) (hb : Blk W' g (lc l') LT) (hk : Kp W.heap.size g W W') : Dm w g h l l' W' :=
  ⟨hb, (hk.block _ d.b.lt d.ne.symm).trans d.b, d.bel.trans (hk.below d.bel.size d.og), d.og, d.oh, d.ne⟩
theorem Dm.call {w W W' : World} {g h : Nat} {l l' : L} (d : Dm w g h l l' W) (hb : Below W.heap.size W W') : Dm w g h l l' W' :=
  ⟨(hb.block _ d.a.lt).trans d.a, (hb.block _ d.b.lt).trans d.b, d.bel.trans (hb.mono d.bel.size), d.og, d.oh, d.ne⟩
theorem Dm.doc {w W W' : World} {g h : Nat} {l l' : L} (d : Dm w g h l l' W) (hb : Blk W' h (rlc l') RL) (hk : Kp W.heap.size h W W') : Dv w g h l' W' :=
  ⟨(hk.block _ d.a.lt d.ne).trans d.a, hb, d.bel.trans (hk.below d.bel.size d.oh), d.og, d.oh, d.ne⟩
/-- The link behind an act. -/
def L.act (l : L) (x : Ac) : L := if x.what % 6 = 0 then (l.acc x.k).1 else if x.what % 6 = 1 then l.urge else if x.what % 6 = 3 then l.sent x.now else l
theorem L.act_wf {l : L} {x : Ac} {w : World} (hl : l.wf) (hx : x.ok w) : (l.act x).wf := by
  unfold L.act
  split
  · exact L.acc_wf hl hx.k
  · split
    · exact L.urge_wf hl
    · split
      · exact L.sent_wf hl hx.now
      · exact hl
set_option maxRecDepth 100000 in
set_option maxHeartbeats 2000000 in
theorem one_0 (w : World) (g h : Nat) (l : L) (x : Ac) (W : World) (hd : Dv w g h l W) (hl : l.wf) (hx : x.ok w) (hf : x.few) (hT : Tab w) (hr : x.what % 6 = 0) :
    Calls Tryd.prog 37 #[.pointer (some ⟨g, 0, none⟩), .pointer (some ⟨h, 0, none⟩), .agg x.cells] W fun r W' => r = .returned (.bool true) ∧ Dv w g h (l.acc x.k).1 W' := by
  have hb0 : Blk (W.alloc (.cells x.cells AT)) W.heap.size x.cells AT := heap_alloc_new W _
  have hd0 := hd.call (bel_new W (.cells x.cells AT))
  have c0 : (W.alloc (.cells x.cells AT)).cell? ⟨W.heap.size, 0, none⟩ = some (.int .u8 x.what) := hb0.cell _ rfl
  have HR := Lib.hid (show (x.what : Int) % 6 = 0 by omega)
  have hwh := hx.what
  have hgx := hd.a.lt
  have hhx := hd.b.lt
  have hbx := hb0.lt
  have HP0 := Lib.hid (x.cells_pk (blk_range hb0))
  have HAC := Lib.hid (fun V (d : Dv w g h l V) => acc_any l x.k x.vi x.vp g V d.a hl hx.k ((hx.ins hf.1).below (w' := V) ⟨d.bel.os, d.bel.tape, d.bel.output, d.bel.size, d.bel.block⟩) ((hx.prs hf.2).below ⟨d.bel.os, d.bel.tape, d.bel.output, d.bel.size, d.bel.block⟩) (tab_below hT d.bel))
  have HRC := Lib.hid (fun V l' (d : Dm w g h l l' V) => racc_any l x.k x.vi x.vp h V d.b hl hx.k (fun V' hk => (hx.ins hf.1).below (d.bel.trans (hk.below d.bel.size d.oh))) (fun V' hk => (hx.prs hf.2).below (d.bel.trans (hk.below d.bel.size d.oh))))
  obtain ⟨A, hA⟩ : ∃ A, A = l.acc x.k := ⟨_, rfl⟩
  obtain ⟨l', E⟩ := A
  rw [← hA] at HAC HRC ⊢
  dsimp only at HAC HRC ⊢
  clear hd hl hx hf hT hr hA
  go_enter Tryd.func37, Tryd.ntmps37
  go_upto_region 1 with fail
  change Code.wp _ _ _ _ (W.alloc (.cells x.cells AT))
  generalize W.alloc (.cells x.cells AT) = w1 at *
  generalize W.heap.size = bx at *
  go_cut [16] (fun v wx => v = .int .u8 0 ∧ w1 = wx)
  case first =>
    go_wp2
    go_meet
    refine ⟨?_, rfl⟩
    first | rfl | (congr 1; done) | (congr 1; have := HR.out; omega)
  case rest =>
  obtain ⟨rfl, rfl⟩ := hcut
  clear c0 HR
  have HP := HP0.out
  clear HP0
  go_wp2_with (first | (refine load_pk_mid (.tmp 35) bx 1 x.k x.vi x.vp HP rfl rfl rfl ?_))
  refine (HAC.out _ hd0).mono ?_
  rintro r w2 ⟨rfl, hb, hk⟩
  have hd2 := hd0.prog hb hk
  have hbb2 : Blk w2 bx x.cells AT := (hk.block bx hbx (by omega)).trans hb0
  have HP2 := x.cells_pk (blk_range hbb2)
  clear hb hk hd0 HP hb0
  go_wp2_with (first | (refine load_pk_mid (.tmp 40) bx 1 x.k x.vi x.vp HP2 rfl rfl rfl ?_))
  refine (HRC.out _ _ hd2).mono ?_
  rintro r w3 ⟨rfl, hb, hk⟩
  have hd3 := hd2.doc hb hk
  have hEE : (E == E) = true := by simp
  clear hb hk hd2 HP2 hbb2
  go_wp2
  go_ret
  exact ⟨rfl, hd3⟩
set_option maxRecDepth 100000 in
set_option maxHeartbeats 2000000 in
theorem one_1 (w : World) (g h : Nat) (l : L) (x : Ac) (W : World) (hd : Dv w g h l W) (hl : l.wf) (hx : x.ok w) (hf : x.few) (hT : Tab w) (hr : x.what % 6 = 1) :
    Calls Tryd.prog 37 #[.pointer (some ⟨g, 0, none⟩), .pointer (some ⟨h, 0, none⟩), .agg x.cells] W fun r W' => r = .returned (.bool true) ∧ Dv w g h l.urge W' := by
  have hb0 : Blk (W.alloc (.cells x.cells AT)) W.heap.size x.cells AT := heap_alloc_new W _
  have hd0 := hd.call (bel_new W (.cells x.cells AT))
  have c0 : (W.alloc (.cells x.cells AT)).cell? ⟨W.heap.size, 0, none⟩ = some (.int .u8 x.what) := hb0.cell _ rfl
  have HR := Lib.hid (show (x.what : Int) % 6 = 1 by omega)
  have hwh := hx.what
  have hgx := hd.a.lt
  have hhx := hd.b.lt
  have hbx := hb0.lt
  have HUR := Lib.hid (fun V (d : Dv w g h l V) => urge_any l g V d.a hl)
  clear hd hl hx hf hT hr
  go_enter Tryd.func37, Tryd.ntmps37
  go_upto_region 1 with fail
  change Code.wp _ _ _ _ (W.alloc (.cells x.cells AT))
  generalize W.alloc (.cells x.cells AT) = w1 at *
  generalize W.heap.size = bx at *
  go_cut [16] (fun v wx => v = .int .u8 1 ∧ w1 = wx)
  case first =>
    go_wp2
    go_meet
    refine ⟨?_, rfl⟩
    first | rfl | (congr 1; done) | (congr 1; have := HR.out; omega)
  case rest =>
  obtain ⟨rfl, rfl⟩ := hcut
  clear c0 HR
  go_wp2_with fail
  refine (HUR.out _ hd0).mono ?_
  rintro r w2 ⟨rfl, hb, hk⟩
  have hd2 := hd0.prog hb hk
  have c7 : w2.cell? ⟨h, 7, none⟩ = some (.bool l.urged) := hd2.b.cell _ rfl
  have f7 : w2.frozen? ⟨h, 7, none⟩ = false := hd2.b.free
  have HD := Lib.hid (hd2.doc (hd2.b.set (off := 7) (.bool true)) ((Kp.refl _ _ _).setCell ⟨h, 7, none⟩ rfl (.bool true)))
  clear hb hk hd2 hd0 hb0
  go_wp2
  go_ret
  exact ⟨rfl, HD.out⟩
set_option maxRecDepth 100000 in
set_option maxHeartbeats 2000000 in
theorem one_2 (w : World) (g h : Nat) (l : L) (x : Ac) (W : World) (hd : Dv w g h l W) (hl : l.wf) (hx : x.ok w) (hf : x.few) (hT : Tab w) (hr : x.what % 6 = 2) :
    Calls Tryd.prog 37 #[.pointer (some ⟨g, 0, none⟩), .pointer (some ⟨h, 0, none⟩), .agg x.cells] W fun r W' => r = .returned (.bool true) ∧ Dv w g h l W' := by
  have hb0 : Blk (W.alloc (.cells x.cells AT)) W.heap.size x.cells AT := heap_alloc_new W _
  have hd0 := hd.call (bel_new W (.cells x.cells AT))
  have c0 : (W.alloc (.cells x.cells AT)).cell? ⟨W.heap.size, 0, none⟩ = some (.int .u8 x.what) := hb0.cell _ rfl
  have HR := Lib.hid (show (x.what : Int) % 6 = 2 by omega)
  have hwh := hx.what
  have hgx := hd.a.lt
  have hhx := hd.b.lt
  have hbx := hb0.lt
  have HDU := Lib.hid (fun V (d : Dv w g h l V) => due_any l g x.now V d.a hl hx.now)
  have HRD := Lib.hid (fun V (d : Dv w g h l V) => rdue_any l h x.now V d.b hl hx.now)
  generalize l.due x.now = DD at *
  clear hd hl hx hf hT hr
  go_enter Tryd.func37, Tryd.ntmps37
  go_upto_region 1 with fail
  change Code.wp _ _ _ _ (W.alloc (.cells x.cells AT))
  generalize W.alloc (.cells x.cells AT) = w1 at *
  generalize W.heap.size = bx at *
  go_cut [16] (fun v wx => v = .int .u8 2 ∧ w1 = wx)
  case first =>
    go_wp2
    go_meet
    refine ⟨?_, rfl⟩
    first | rfl | (congr 1; done) | (congr 1; have := HR.out; omega)
  case rest =>
  obtain ⟨rfl, rfl⟩ := hcut
  clear c0 HR
  have hbb : Dv w g h l w1 ∧ Blk w1 bx x.cells AT := ⟨hd0, hb0⟩
  clear hd0 hb0
  go_upto_region 12 with fail
  refine Draw.wp_region_frame (fun V => Dv w g h l V ∧ Blk V bx x.cells AT) (fun W W' => Below W.heap.size W W') (fun i W vv => match i with
      | 0 => vv = .pointer (some ⟨g, 0, none⟩)
      | 1 => vv = .pointer (some ⟨bx, 12, none⟩)
      | 2 => vv = .int .u64 x.now
      | 3 => vv = .bool DD
      | 4 => vv = .pointer (some ⟨h, 0, none⟩)
      | 5 => vv = .pointer (some ⟨bx, 12, none⟩)
      | 6 => vv = .int .u64 x.now
      | 7 => vv = .bool DD
      | 8 => vv = .bool true
      | _ => vv = .bool true) (by kernel_rfl) (by kernel_rfl) (by decide) rfl ?_ ⟨hbb.1.call (Below.refl _ _).drew, hbb.2⟩ ?_ [53, 54, 55, 56, 57, 58, 59, 60, 61, 6] (by rfl) ?_
  · intro i W W' vv he hf
    exact hf
  · refine ⟨?_, ?_, ?_, ?_, ?_, ?_, ?_, ?_, ?_, ?_, trivial⟩
    all_goals intro ρ W hJ hc hf hKn
    · refine Draw.Goes.plain rfl ?_
      exact Draw.Runs.value (w' := W) (v := ρ (.tmp 0)) rfl ⟨hJ, Below.refl _ _, hKn.1.2 0 rfl⟩
    · refine Draw.Goes.plain rfl ?_
      have h0 : ρ (.tmp 5) = .pointer (some ⟨bx, 0, none⟩) := hKn.1.2 5 rfl
      refine Draw.Runs.value (w' := W) (v := .pointer (some ⟨bx, 12, none⟩)) ?_ ⟨hJ, Below.refl _ _, rfl⟩
      simp only [execOp]; go_simp
    · refine Draw.Goes.plain rfl ?_
      have h0 : ρ (.tmp 54) = .pointer (some ⟨bx, 12, none⟩) := hKn.1.get 1 54 rfl rfl
      have c : W.cell? ⟨bx, 12, none⟩ = some (.int .u64 x.now) := hJ.2.cell _ rfl
      refine Draw.Runs.value (w' := W) (v := .int .u64 x.now) ?_ ⟨hJ, Below.refl _ _, rfl⟩
      simp only [execOp]; go_simp
    · refine Draw.Goes.plain rfl ?_
      have h0 : ρ (.tmp 53) = .pointer (some ⟨g, 0, none⟩) := hKn.1.get 0 53 rfl rfl
      have h1 : ρ (.tmp 55) = .int .u64 x.now := hKn.1.get 2 55 rfl rfl
      refine Draw.Runs.enter (f := 26) (args := #[.pointer (some ⟨g, 0, none⟩), .int .u64 x.now]) ?_ ((HDU.out W hJ.1).mono fun e W' ⟨he, hb⟩ => ⟨_, he, ⟨hJ.1.call hb, (hb.block _ hJ.2.lt).trans hJ.2⟩, hb, rfl⟩)
      simp only [execOp]; go_simp
    · refine Draw.Goes.plain rfl ?_
      exact Draw.Runs.value (w' := W) (v := ρ (.tmp 1)) rfl ⟨hJ, Below.refl _ _, hKn.1.2 1 rfl⟩
    · refine Draw.Goes.plain rfl ?_
      have h0 : ρ (.tmp 5) = .pointer (some ⟨bx, 0, none⟩) := hKn.1.2 5 rfl
      refine Draw.Runs.value (w' := W) (v := .pointer (some ⟨bx, 12, none⟩)) ?_ ⟨hJ, Below.refl _ _, rfl⟩
      simp only [execOp]; go_simp
    · refine Draw.Goes.plain rfl ?_
      have h0 : ρ (.tmp 58) = .pointer (some ⟨bx, 12, none⟩) := hKn.1.get 5 58 rfl rfl
      have c : W.cell? ⟨bx, 12, none⟩ = some (.int .u64 x.now) := hJ.2.cell _ rfl
      refine Draw.Runs.value (w' := W) (v := .int .u64 x.now) ?_ ⟨hJ, Below.refl _ _, rfl⟩
      simp only [execOp]; go_simp
    · refine Draw.Goes.plain rfl ?_
      have h0 : ρ (.tmp 57) = .pointer (some ⟨h, 0, none⟩) := hKn.1.get 4 57 rfl rfl
      have h1 : ρ (.tmp 59) = .int .u64 x.now := hKn.1.get 6 59 rfl rfl
      refine Draw.Runs.enter (f := 76) (args := #[.pointer (some ⟨h, 0, none⟩), .int .u64 x.now]) ?_ ((HRD.out W hJ.1).mono fun e W' ⟨he, hb⟩ => ⟨_, he, ⟨hJ.1.call hb, (hb.block _ hJ.2.lt).trans hJ.2⟩, hb, rfl⟩)
      simp only [execOp]; go_simp
    · refine Draw.Goes.plain rfl ?_
      have h0 : ρ (.tmp 56) = .bool DD := hKn.1.get 3 56 rfl rfl
      have h1 : ρ (.tmp 60) = .bool DD := hKn.1.get 7 60 rfl rfl
      refine Draw.Runs.value (w' := W) (v := .bool true) ?_ ⟨hJ, Below.refl _ _, rfl⟩
      simp only [execOp]; go_simp
    · refine Draw.Goes.plain rfl ?_
      exact Draw.Runs.value (w' := W) (v := ρ (.tmp 61)) rfl ⟨hJ, Below.refl _ _, hKn.1.get 8 61 rfl rfl⟩
  · intro u W hJ hf
    have r6 : u 6 = .bool true := hf 9 _ 6 rfl rfl
    simp only [List.foldl_cons, List.foldl_nil, List.setIfInBounds_toArray, List.set_cons_succ, List.set_cons_zero, r6]
    have HD := Lib.hid hJ.1
    clear hJ hf
    go_wp2
    go_ret
    exact ⟨rfl, HD.out⟩
set_option maxRecDepth 100000 in
set_option maxHeartbeats 2000000 in
theorem one_3 (w : World) (g h : Nat) (l : L) (x : Ac) (W : World) (hd : Dv w g h l W) (hl : l.wf) (hx : x.ok w) (hf : x.few) (hT : Tab w) (hr : x.what % 6 = 3) :
    Calls Tryd.prog 37 #[.pointer (some ⟨g, 0, none⟩), .pointer (some ⟨h, 0, none⟩), .agg x.cells] W fun r W' => r = .returned (.bool true) ∧ Dv w g h (l.sent x.now) W' := by
  have hb0 : Blk (W.alloc (.cells x.cells AT)) W.heap.size x.cells AT := heap_alloc_new W _
  have hd0 := hd.call (bel_new W (.cells x.cells AT))
  have c0 : (W.alloc (.cells x.cells AT)).cell? ⟨W.heap.size, 0, none⟩ = some (.int .u8 x.what) := hb0.cell _ rfl
  have HR := Lib.hid (show (x.what : Int) % 6 = 3 by omega)
  have hwh := hx.what
  have hgx := hd.a.lt
  have hhx := hd.b.lt
  have hbx := hb0.lt
  have HSE := Lib.hid (fun V (d : Dv w g h l V) => sent_any l g x.now V d.a hl hx.now)
  have HRS := Lib.hid (fun V l' (d : Dm w g h l l' V) => rsent_any l h x.now V d.b hl hx.now)
  clear hd hl hx hf hT hr
  go_enter Tryd.func37, Tryd.ntmps37
  go_upto_region 1 with fail
  change Code.wp _ _ _ _ (W.alloc (.cells x.cells AT))
  generalize W.alloc (.cells x.cells AT) = w1 at *
  generalize W.heap.size = bx at *
  go_cut [16] (fun v wx => v = .int .u8 3 ∧ w1 = wx)
  case first =>
    go_wp2
    go_meet
    refine ⟨?_, rfl⟩
    first | rfl | (congr 1; done) | (congr 1; have := HR.out; omega)
  case rest =>
  obtain ⟨rfl, rfl⟩ := hcut
  clear c0 HR
  have c12 : w1.cell? ⟨bx, 12, none⟩ = some (.int .u64 x.now) := hb0.cell _ rfl
  go_wp2_with fail
  refine (HSE.out _ hd0).mono ?_
  rintro r w2 ⟨rfl, hb, hk⟩
  have hd2 := hd0.prog hb hk
  have hbb2 : Blk w2 bx x.cells AT := (hk.block bx hbx (by omega)).trans hb0
  have d12 : w2.cell? ⟨bx, 12, none⟩ = some (.int .u64 x.now) := hbb2.cell _ rfl
  clear hb hk hd0 hb0 c12
  go_wp2_with fail
  refine (HRS.out _ _ hd2).mono ?_
  rintro r w3 ⟨rfl, hb, hk⟩
  have hd3 := hd2.doc hb hk
  clear hb hk hd2 hbb2
  go_wp2
  go_ret
  exact ⟨rfl, hd3⟩
set_option maxRecDepth 100000 in
set_option maxHeartbeats 2000000 in
theorem one_4 (w : World) (g h : Nat) (l : L) (x : Ac) (W : World) (hd : Dv w g h l W) (hl : l.wf) (hx : x.ok w) (hf : x.few) (hT : Tab w) (hr : x.what % 6 = 4) :
    Calls Tryd.prog 37 #[.pointer (some ⟨g, 0, none⟩), .pointer (some ⟨h, 0, none⟩), .agg x.cells] W fun r W' => r = .returned (.bool true) ∧ Dv w g h l W' := by
  have hb0 : Blk (W.alloc (.cells x.cells AT)) W.heap.size x.cells AT := heap_alloc_new W _
  have hd0 := hd.call (bel_new W (.cells x.cells AT))
  have c0 : (W.alloc (.cells x.cells AT)).cell? ⟨W.heap.size, 0, none⟩ = some (.int .u8 x.what) := hb0.cell _ rfl
  have HR := Lib.hid (show (x.what : Int) % 6 = 4 by omega)
  have hwh := hx.what
  have hgx := hd.a.lt
  have hhx := hd.b.lt
  have hbx := hb0.lt
  have HWI := Lib.hid (fun V (d : Dv w g h l V) => win_any l g x.a x.b V d.a hl hx.a hx.b)
  have HRW := Lib.hid (fun V (d : Dv w g h l V) => rwin_any l h x.a x.b V d.b hl hx.a hx.b)
  generalize l.first x.a x.b = f1 at *
  generalize l.many x.a x.b = f2 at *
  clear hd hl hx hf hT hr
  go_enter Tryd.func37, Tryd.ntmps37
  go_upto_region 1 with fail
  change Code.wp _ _ _ _ (W.alloc (.cells x.cells AT))
  generalize W.alloc (.cells x.cells AT) = w1 at *
  generalize W.heap.size = bx at *
  go_cut [16] (fun v wx => v = .int .u8 4 ∧ w1 = wx)
  case first =>
    go_wp2
    go_meet
    refine ⟨?_, rfl⟩
    first | rfl | (congr 1; done) | (congr 1; have := HR.out; omega)
  case rest =>
  obtain ⟨rfl, rfl⟩ := hcut
  clear c0 HR
  have c13 : w1.cell? ⟨bx, 13, none⟩ = some (.int .u64 x.a) := hb0.cell _ rfl
  have c14 : w1.cell? ⟨bx, 14, none⟩ = some (.int .u64 x.b) := hb0.cell _ rfl
  have HD := Lib.hid hd0
  have t1 : ((f1 : Int) == (f1 : Int)) = true := by simp
  have t2 : ((f2 : Int) == (f2 : Int)) = true := by simp
  clear hb0 hd0
  go_wp2_with fail
  refine (HWI.out _ HD.out).mono ?_
  rintro r w' ⟨rfl, rfl⟩
  go_wp2_with fail
  refine (HRW.out _ HD.out).mono ?_
  rintro r w' ⟨rfl, rfl⟩
  go_wp2
  go_ret
  exact ⟨rfl, HD.out⟩
set_option maxRecDepth 100000 in
set_option maxHeartbeats 2000000 in
theorem one_5 (w : World) (g h : Nat) (l : L) (x : Ac) (W : World) (hd : Dv w g h l W) (hl : l.wf) (hx : x.ok w) (hf : x.few) (hT : Tab w) (hr : x.what % 6 = 5) :
    Calls Tryd.prog 37 #[.pointer (some ⟨g, 0, none⟩), .pointer (some ⟨h, 0, none⟩), .agg x.cells] W fun r W' => r = .returned (.bool true) ∧ Dv w g h l W' := by
  have hb0 : Blk (W.alloc (.cells x.cells AT)) W.heap.size x.cells AT := heap_alloc_new W _
  have hd0 := hd.call (bel_new W (.cells x.cells AT))
  have c0 : (W.alloc (.cells x.cells AT)).cell? ⟨W.heap.size, 0, none⟩ = some (.int .u8 x.what) := hb0.cell _ rfl
  have HR := Lib.hid (show (x.what : Int) % 6 = 5 by omega)
  have hwh := hx.what
  have hgx := hd.a.lt
  have hhx := hd.b.lt
  have hbx := hb0.lt
  have HHE := Lib.hid (fun V (d : Dv w g h l V) => hdr_any l x.n x.a g V d.a hl)
  have HRH := Lib.hid (fun V (d : Dv w g h l V) => rhdr_any l x.n x.a h V d.b hl)
  have hq1 : (l.hdr x.n x.a).ins = [] := rfl
  have hq2 : (l.hdr x.n x.a).prs = [] := rfl
  generalize l.hdr x.n x.a = q at *
  have HSA := Lib.hid (fun V => rsame_any q q nS nS nS nS V (hq1 ▸ ins_nil V) (hq2 ▸ prs_nil V) (hq1 ▸ ins_nil V) (hq2 ▸ prs_nil V))
  rw [decide_eq_true (show q = q from rfl)] at HSA
  clear hd hl hx hf hT hr
  go_enter Tryd.func37, Tryd.ntmps37
  go_upto_region 1 with fail
  change Code.wp _ _ _ _ (W.alloc (.cells x.cells AT))
  generalize W.alloc (.cells x.cells AT) = w1 at *
  generalize W.heap.size = bx at *
  go_cut [16] (fun v wx => v = .int .u8 5 ∧ w1 = wx)
  case first =>
    go_wp2
    go_meet
    refine ⟨?_, rfl⟩
    first | rfl | (congr 1; done) | (congr 1; have := HR.out; omega)
  case rest =>
  obtain ⟨rfl, rfl⟩ := hcut
  clear c0 HR
  have c15 : w1.cell? ⟨bx, 15, none⟩ = some (.int .i64 x.n) := hb0.cell _ rfl
  have c13 : w1.cell? ⟨bx, 13, none⟩ = some (.int .u64 x.a) := hb0.cell _ rfl
  go_wp2_with fail
  refine (HHE.out _ hd0).mono ?_
  rintro r w2 ⟨rfl, hb⟩
  have hd2 := hd0.call hb
  have hbb2 : Blk w2 bx x.cells AT := (hb.block bx hbx).trans hb0
  clear hb hd0 hb0 c13 c15
  have hn2 : Blk (w2.alloc (.cells (pc K.zero nS nS) PT)) w2.heap.size (pc K.zero nS nS) PT := heap_alloc_new w2 _
  have hb2' : Below w2.heap.size w2 ((w2.alloc (.cells (pc K.zero nS nS) PT)).setRow w2.heap.size (pc q nS nS)) := below_setRow (bel_new w2 _) (Nat.le_refl _) _
  have hx2 : Blk ((w2.alloc (.cells (pc K.zero nS nS) PT)).setRow w2.heap.size (pc q nS nS)) w2.heap.size (pc q nS nS) PT := setRow_heap _ _ _ _ _ _ hn2
  have hd2' := hd2.call hb2'
  have hbb2' : Blk ((w2.alloc (.cells (pc K.zero nS nS) PT)).setRow w2.heap.size (pc q nS nS)) bx x.cells AT := (hb2'.block _ hbb2.lt).trans hbb2
  go_upto_region 3 with (first | (refine store_pk (.tmp 12) (.tmp 22) w2.heap.size K.zero q nS nS nS nS slnil hn2 rfl rfl rfl rfl rfl ?_))
  change Code.wp _ _ _ _ ((w2.alloc (.cells (pc K.zero nS nS) PT)).setRow w2.heap.size (pc q nS nS))
  generalize (w2.alloc (.cells (pc K.zero nS nS) PT)).setRow w2.heap.size (pc q nS nS) = w3 at *
  have d15 : w3.cell? ⟨bx, 15, none⟩ = some (.int .i64 x.n) := hbb2'.cell _ rfl
  have d13 : w3.cell? ⟨bx, 13, none⟩ = some (.int .u64 x.a) := hbb2'.cell _ rfl
  go_wp2_with fail
  refine (HRH.out _ hd2').mono ?_
  rintro r w4 ⟨rfl, hb⟩
  have hd4 := hd2'.call hb
  have hx4 : Blk w4 w2.heap.size (pc q nS nS) PT := (hb.block _ hx2.lt).trans hx2
  have hn4 : Blk (w4.alloc (.cells (pc K.zero nS nS) RPk)) w4.heap.size (pc K.zero nS nS) RPk := heap_alloc_new w4 _
  have hb4' : Below w4.heap.size w4 ((w4.alloc (.cells (pc K.zero nS nS) RPk)).setRow w4.heap.size (pc q nS nS)) := below_setRow (bel_new w4 _) (Nat.le_refl _) _
  have hx5 : Blk ((w4.alloc (.cells (pc K.zero nS nS) RPk)).setRow w4.heap.size (pc q nS nS)) w4.heap.size (pc q nS nS) RPk := setRow_heap _ _ _ _ _ _ hn4
  have hy5 : Blk ((w4.alloc (.cells (pc K.zero nS nS) RPk)).setRow w4.heap.size (pc q nS nS)) w2.heap.size (pc q nS nS) PT := (hb4'.block _ hx4.lt).trans hx4
  have hd5 := hd4.call hb4'
  clear hb hd2' hbb2' d13 d15 hn2 hb2' hx2 hbb2 hd2
  go_upto_region 4 with (first | (refine rstore_pk (.tmp 13) (.tmp 28) w4.heap.size K.zero q nS nS nS nS slnil hn4 rfl rfl rfl rfl rfl ?_))
  change Code.wp _ _ _ _ ((w4.alloc (.cells (pc K.zero nS nS) RPk)).setRow w4.heap.size (pc q nS nS))
  generalize (w4.alloc (.cells (pc K.zero nS nS) RPk)).setRow w4.heap.size (pc q nS nS) = w5 at *
  go_wp2_with (first | (refine load_pk (.tmp 12) w2.heap.size q nS nS hy5 rfl rfl rfl ?_) | (refine rload_pk (.tmp 13) w4.heap.size q nS nS hx5 rfl rfl rfl ?_))
  refine (HSA.out _).mono ?_
  rintro r w6 ⟨rfl, hb⟩
  have hd6 := hd5.call hb
  clear hb hd5
  go_wp2
  go_ret
  exact ⟨rfl, hd6⟩
/-- What 'one' answers, and what both links are then. -/
theorem one_any (w : World) (g h : Nat) (l : L) (x : Ac) (W : World) (hd : Dv w g h l W) (hl : l.wf) (hx : x.ok w) (hf : x.few) (hT : Tab w) :
    Calls Tryd.prog 37 #[.pointer (some ⟨g, 0, none⟩), .pointer (some ⟨h, 0, none⟩), .agg x.cells] W fun r W' => r = .returned (.bool true) ∧ Dv w g h (l.act x) W' := by
  have h6 : x.what % 6 < 6 := Nat.mod_lt _ (by decide)
  unfold L.act
  match hr : x.what % 6, h6 with
  | 0, _ => exact one_0 w g h l x W hd hl hx hf hT hr
  | 1, _ => exact one_1 w g h l x W hd hl hx hf hT hr
  | 2, _ => exact one_2 w g h l x W hd hl hx hf hT hr
  | 3, _ => exact one_3 w g h l x W hd hl hx hf hT hr
  | 4, _ => exact one_4 w g h l x W hd hl hx hf hT hr
  | 5, _ => exact one_5 w g h l x W hd hl hx hf hT hr
end Go.Proofs.YtdgbililgkhjfaaDoor.Lk
