/- What the document's 'Put' answers: walked; the packet of a text as the document has it: plain. Conditions: the numbers are what their types bear; the lists lie in memory. -/
import Derived.Test.YtdgbililgkhjfaaDoorPkD5
import Derived.Test.YtdgbililgkhjfaaDoorPkY0
namespace Go.Proofs.YtdgbililgkhjfaaDoor.Pk
open Go.RowKit Go.Proofs.YtdgbililgkhjfaaDoor.Crc Go.Proofs.YtdgbililgkhjfaaDoor.Codec Go.Proofs.YtdgbililgkhjfaaDoor.Frame
set_option linter.unusedVariables false
set_option linter.unusedSimpArgs false
theorem rpc_info (k : K) (vi vp : Value) : (Tryd.prog.info? 34).map (·.size) = some (pc k vi vp).size := by kernel_rfl
/-- A whole packet is stored. -/
theorem rstore_pk {ops : Array Oper} {rest : List Oper} {op : Oper} {a : Act} {w : World} {Q : Exit → Act → World → Prop} (x y : Operand) (g : Nat) (k0 k : K) (vi0 vp0 vi vp : Value) (hs : Sl vi vp) (hb : Blk w g (pc k0 vi0 vp0) 34) (hgd : op.guard = none) (ho : op.op = .store 34 x y)
    (hd : op.dst = none) (hx : a.eval x = .pointer (some ⟨g, 0, none⟩)) (hy : a.eval y = .agg (pc k vi vp)) (h : wpList Tryd.prog ops Q rest a (w.setRow g (pc k vi vp))) : wpList Tryd.prog ops Q (op :: rest) a w :=
  wpList_store_rowTo hgd 34 x y ho hd g (pc k vi vp) hx hy 34 (pc k0 vi0 vp0) hb (rpc_info k vi vp) rfl (pc_all k hs) h
/-- A whole packet is read. -/
theorem rload_pk {ops : Array Oper} {rest : List Oper} {op : Oper} {a : Act} {w : World} {Q : Exit → Act → World → Prop} (x : Operand) (g : Nat) (k : K) (vi vp : Value) (hb : Blk w g (pc k vi vp) 34) (hgd : op.guard = none) (ho : op.op = .load 34 x)
    (hx : a.eval x = .pointer (some ⟨g, 0, none⟩)) (h : wpList Tryd.prog ops Q rest (a.put op.dst (.agg (pc k vi vp))) w) : wpList Tryd.prog ops Q (op :: rest) a w :=
  wpList_load_row hgd 34 x ho g hx 34 (pc k vi vp) (0, 0) _ hb Tryd.underlying34 rfl (rpc_info k vi vp) h
/-- The same under a guard that says yes. -/
theorem rload_pkg {ops : Array Oper} {rest : List Oper} {op : Oper} {a : Act} {w : World} {Q : Exit → Act → World → Prop} (x : Operand) (g : Nat) (k : K) (vi vp : Value) (hb : Blk w g (pc k vi vp) 34) (hgd : Region.wanted op (yielded ops a.tmps) = true) (ho : op.op = .load 34 x)
    (hx : a.eval x = .pointer (some ⟨g, 0, none⟩)) (h : wpList Tryd.prog ops Q rest (a.put op.dst (.agg (pc k vi vp))) w) : wpList Tryd.prog ops Q (op :: rest) a w := by
  unfold wpList
  rw [if_pos hgd]
  exact .inl (wp_load_row 34 x ho g hx 34 (pc k vi vp) (0, 0) _ hb Tryd.underlying34 rfl (rpc_info k vi vp) h)
theorem rpay_any (k : K) (vi vp : Value) (w : World) (hk : k.wf) (hi : Ins w vi k.ins) (hp : Prs w vp k.prs) (hm : k.may) :
    Calls Tryd.prog 62 #[.agg (pc k vi vp)] w fun e w' => e = .returned (.string (bs k.pay)) ∧ Below w.heap.size w w' := by
  obtain ⟨l1, l2⟩ := hm.lens
  have h1 := hm.1
  have h2 := hm.2.1
  obtain ⟨kind, player, epoch, dest, count, own, first, ins, prs, frame, sum⟩ := k
  dsimp only at h1 h2 l1 l2 hi hp
  have hc : kind = 1 ∨ kind = 2 ∨ kind = 3 ∨ kind = 4 ∨ kind = 5 := by omega
  rcases hc with rfl | rfl | rfl | rfl | rfl
  · exact rpay_1 player epoch dest count own first ins prs frame sum vi vp w hk hi hp l1 l2
  · exact rpay_2 player epoch dest count own first ins prs frame sum vi vp w hk hi hp l1 l2
  · exact rpay_3 player epoch dest count own first ins prs frame sum vi vp w hk hi hp l1 l2
  · exact rpay_4 player epoch dest count own first ins prs frame sum vi vp w hk hi hp l1 l2
  · exact rpay_5 player epoch dest count own first ins prs frame sum vi vp w hk hi hp l1 l2
theorem pPut_no {k : K} (h : ¬ (k.may ∧ k.only = k)) : pPut k = ([], 4) := if_neg h
theorem pPut_yes {k : K} (h : k.may ∧ k.only = k) : pPut k = (fput k.pay, 0) := if_pos h
theorem fputE_pay {k : K} (h : k.may) : fputE k.pay = 0 := by
  obtain ⟨l1, l2⟩ := h.lens
  exact if_pos (pay_length k l1 l2)
set_option maxRecDepth 100000 in
/-- What the document's 'Put' answers. -/
theorem rputp_any (k : K) (vi vp : Value) (w : World) (hk : k.wf) (hi : Ins w vi k.ins) (hp : Prs w vp k.prs) :
    Calls Tryd.prog 19 #[.agg (pc k vi vp)] w fun e w' => e = .returned (.tuple #[.string (bs (pPut k).1), .int .i64 (pPut k).2]) ∧ Below w.heap.size w w' := by
  have hM := fun W (h : Below w.heap.size w W) => rmay_any k vi vp W hk (hi.below h) (hp.below h)
  by_cases hg : k.may ∧ k.only = k
  · rw [(docMay_iff k).2 hg] at hM
    have hpay := fun W (h : Below w.heap.size w W) => rpay_any k vi vp W hk (hi.below h) (hp.below h) hg.1
    have hz : (bs k.pay).size ≤ maxLen := by
      rw [bs_size]; unfold maxLen
      have := pay_length k hg.1.lens.1 hg.1.lens.2
      omega
    have hfr := fun W => rput_any (bs k.pay) W hz
    rw [bs_toList, fputE_pay hg.1] at hfr
    rw [pPut_yes hg]
    dsimp only
    generalize bs k.pay = X at *
    generalize bs (fput k.pay) = Y at *
    have HM := Lib.hid hM
    have HP := Lib.hid hpay
    have HR := Lib.hid hfr
    clear hM hpay hfr hk hi hp hg hz
    go_enter Tryd.func19, Tryd.ntmps19
    go_wp2_with (first | (refine rload_pk (.tmp 1) w.heap.size k _ _ (heap_alloc_new w _) rfl rfl rfl ?_))
    refine (HM.out _ ((Below.refl _ w).alloc (Nat.le_refl _) _)).mono ?_
    rintro e w1 ⟨rfl, hb⟩
    have hB : Below w.heap.size w w1 := ((Below.refl _ w).alloc (Nat.le_refl _) _).trans (hb.mono (by simp))
    have hp1 : Blk w1 w.heap.size (pc k vi vp) 34 := (hb.block _ (by simp)).trans (heap_alloc_new w _)
    clear hb
    go_wp2_with (first | (refine rload_pk (.tmp 1) w.heap.size k _ _ hp1 rfl rfl rfl ?_))
    refine (HP.out _ hB).mono ?_
    rintro e w2 ⟨rfl, hb⟩
    have hB2 := hB.trans (hb.mono hB.size)
    clear hb hp1 hB
    go_wp2_with fail
    refine (HR.out _).mono ?_
    rintro e w3 ⟨rfl, hb⟩
    have hB3 := hB2.trans (hb.mono hB2.size)
    clear hb hB2
    go_wp2
    go_ret2
    exact ⟨rfl, hB3⟩
  · rw [show docMay k = false from by
      cases hd : docMay k with
      | false => rfl
      | true => exact absurd ((docMay_iff k).1 hd) hg] at hM
    rw [pPut_no hg]
    have HM := Lib.hid hM
    clear hM hk hi hp hg
    go_enter Tryd.func19, Tryd.ntmps19
    go_wp2_with (first | (refine rload_pk (.tmp 1) w.heap.size k _ _ (heap_alloc_new w _) rfl rfl rfl ?_))
    refine (HM.out _ ((Below.refl _ w).alloc (Nat.le_refl _) _)).mono ?_
    rintro e w1 ⟨rfl, hb⟩
    have hB : Below w.heap.size w w1 := ((Below.refl _ w).alloc (Nat.le_refl _) _).trans (hb.mono (by simp))
    clear hb
    go_wp2
    go_ret2
    exact ⟨rfl, hB⟩
/-- The packet that the bytes would be. -/
def rK (m : List UInt8) : K :=
  let c := (sm m 0).toNat
  let n := (sm m 34).toNat
  { kind := c, player := (sm m 1).toNat, epoch := numAt m 2 0, dest := numAt m 10 0, count := numAt m 18 0
    own := if c = 1 ∨ c = 2 then numAt m 26 0 else 0
    first := if c = 3 ∨ c = 4 then numAt m 26 0 else 0
    ins := if c = 3 then (List.range n).map fun i => sm m (35 + i) else []
    prs := if c = 4 then (List.range n).map fun i => (sm m (35 + 2 * i), sm m (36 + 2 * i)) else []
    frame := if c = 5 then numAt m 26 0 else 0
    sum := if c = 5 then numAt m 34 0 else 0 }
theorem sm_cons (c : UInt8) (l : List UInt8) (j : Nat) : sm (c :: l) (j + 1) = sm l j := by simp [sm]
theorem numAt_cons (c : UInt8) (l : List UInt8) (a : Nat) : numAt (c :: l) (a + 1) 0 = V ((l.drop a).take 8) := by simp [numAt]
theorem sm_drop (l : List UInt8) (a j : Nat) : sm (l.drop a) j = sm l (a + j) := by simp [sm, List.getD_eq_getElem?_getD]
theorem sm_take (l : List UInt8) (a : Nat) : V ((l.drop a).take 1) = (sm l a).toNat := by
  unfold sm
  by_cases h : a < l.length
  · have e : (l.drop a).take 1 = [l[a]] := by rw [List.drop_eq_getElem_cons h]; rfl
    rw [e, List.getD_eq_getElem?_getD, List.getElem?_eq_getElem h]
    show l[a].toNat + 256 * 0 = _
    simp
  · rw [List.drop_of_length_le (by omega), List.getD_eq_getElem?_getD, List.getElem?_eq_none (by omega)]
    simp [V]
theorem map_sm (l : List UInt8) : ((List.range l.length).map fun i => sm l i) = l := by
  apply List.ext_getElem
  · simp
  · intro i h1 h2
    simp [sm, List.getD_eq_getElem?_getD, h2]
theorem map_sm2 : ∀ (l : List (UInt8 × UInt8)), ((List.range l.length).map fun i => (sm (flat l) (2 * i), sm (flat l) (2 * i + 1))) = l := fun l => by
  apply List.ext_getElem
  · simp
  · intro i h1 h2
    obtain ⟨e1, e2⟩ := flat_get l i h2
    rw [Nat.mul_comm] at e1 e2
    simp [sm, List.getD_eq_getElem?_getD, e1, e2]
/-- A packet's own payload read byte by byte gives it back. -/
theorem rK_pay {k : K} (hw : k.wf) (hm : k.may) (ho : k.only = k) : rK k.pay = k := by
  obtain ⟨l1, l2⟩ := hm.lens
  have k1 := hm.1
  have k2 := hm.2.1
  obtain ⟨e1, e2, e3, e4, e5, e6⟩ := body_cuts k hw
  have l8 : ∀ n, (leB n 8).length = 8 := leB_length 8
  have b1 : ∀ n, (leB n 1).length = 1 := leB_length 1
  have hkd : (sm k.pay 0).toNat = k.kind.toNat := by
    show (UInt8.ofNat k.kind.toNat).toNat = _
    rw [UInt8.toNat_ofNat']; omega
  have hpl : (sm k.pay 1).toNat = k.player := by rw [← e1, show (k.body.take 1) = (k.body.drop 0).take 1 from rfl, sm_take]; rfl
  have hep : numAt k.pay 2 0 = k.epoch := by rw [← e2]; exact numAt_cons _ _ 1
  have hde : numAt k.pay 10 0 = k.dest := by rw [← e3]; exact numAt_cons _ _ 9
  have hco : numAt k.pay 18 0 = k.count := by rw [← e4]; exact numAt_cons _ _ 17
  have h26 : numAt k.pay 26 0 = V (k.tail.take 8) := by rw [← e5]; exact numAt_cons _ _ 25
  have h34 : numAt k.pay 34 0 = V ((k.tail.drop 8).take 8) := by rw [← e5, List.drop_drop]; exact numAt_cons _ _ 33
  have s34 : (sm k.pay 34).toNat = V ((k.tail.drop 8).take 1) := by rw [← e5, List.drop_drop, sm_take]; rfl
  have s35 : ∀ j, sm k.pay (35 + j) = sm (k.tail.drop 9) j := fun j => by
    rw [← e5, List.drop_drop, sm_drop, show 35 + j = (25 + 9 + j) + 1 by omega]; exact sm_cons _ _ _
  have hc : k.kind = 1 ∨ k.kind = 2 ∨ k.kind = 3 ∨ k.kind = 4 ∨ k.kind = 5 := by omega
  have base : ∀ c : Nat, k.kind = c → rK k.pay = ⟨c, k.player, k.epoch, k.dest, k.count, if c = 1 ∨ c = 2 then V (k.tail.take 8) else 0, if c = 3 ∨ c = 4 then V (k.tail.take 8) else 0,
      if c = 3 then (List.range (V ((k.tail.drop 8).take 1))).map (fun i => sm (k.tail.drop 9) i) else [], if c = 4 then (List.range (V ((k.tail.drop 8).take 1))).map (fun i => (sm (k.tail.drop 9) (2 * i), sm (k.tail.drop 9) (2 * i + 1))) else [],
      if c = 5 then V (k.tail.take 8) else 0, if c = 5 then V ((k.tail.drop 8).take 8) else 0⟩ := by
    intro c hkc
    have hcc : (sm k.pay 0).toNat = c := by rw [hkd, hkc]; rfl
    have s36 : ∀ i, sm k.pay (36 + 2 * i) = sm (k.tail.drop 9) (2 * i + 1) := fun i => by rw [show 36 + 2 * i = 35 + (2 * i + 1) by omega]; exact s35 _
    unfold rK
    simp only [hcc, hpl, hep, hde, hco, h26, h34, s34, s35, s36]
  rcases hc with c | c | c | c | c
  · obtain ⟨o1, o2, o3, o4, o5⟩ := (only12 (.inl c)).1 ho
    have ht : k.tail = leB k.own 8 := by unfold K.tail; rw [if_pos (by omega)]
    rw [base 1 c, ht, List.take_of_length_le (by rw [l8]; decide), V_le hw.own]
    exact K.ext' c.symm rfl rfl rfl rfl rfl o1.symm o2.symm o3.symm o4.symm o5.symm
  · obtain ⟨o1, o2, o3, o4, o5⟩ := (only12 (.inr c)).1 ho
    have ht : k.tail = leB k.own 8 := by unfold K.tail; rw [if_pos (by omega)]
    rw [base 2 c, ht, List.take_of_length_le (by rw [l8]; decide), V_le hw.own]
    exact K.ext' c.symm rfl rfl rfl rfl rfl o1.symm o2.symm o3.symm o4.symm o5.symm
  · obtain ⟨o1, o2, o3, o4⟩ := (only3 c).1 ho
    have ht : k.tail = leB k.first 8 ++ (leB k.ins.length 1 ++ k.ins) := by unfold K.tail; rw [if_neg (by omega), if_pos (by omega)]
    have t8 : k.tail.drop 8 = leB k.ins.length 1 ++ k.ins := by rw [ht]; exact tk_drop (l8 _)
    have t9 : k.tail.drop 9 = k.ins := by rw [show 9 = 8 + 1 from rfl, ← List.drop_drop, t8]; exact tk_drop (b1 _)
    have v8 : V (k.tail.take 8) = k.first := by rw [ht, tk_left (l8 _)]; exact V_le hw.first
    have v1 : V ((k.tail.drop 8).take 1) = k.ins.length := by rw [t8, tk_left (b1 _)]; exact V_le (by omega)
    rw [base 3 c, t9, v8, v1]
    exact K.ext' c.symm rfl rfl rfl rfl o1.symm rfl (map_sm _) o2.symm o3.symm o4.symm
  · obtain ⟨o1, o2, o3, o4⟩ := (only4 c).1 ho
    have ht : k.tail = leB k.first 8 ++ (leB k.prs.length 1 ++ flat k.prs) := by unfold K.tail; rw [if_neg (by omega), if_neg (by omega), if_pos (by omega)]
    have t8 : k.tail.drop 8 = leB k.prs.length 1 ++ flat k.prs := by rw [ht]; exact tk_drop (l8 _)
    have t9 : k.tail.drop 9 = flat k.prs := by rw [show 9 = 8 + 1 from rfl, ← List.drop_drop, t8]; exact tk_drop (b1 _)
    have v8 : V (k.tail.take 8) = k.first := by rw [ht, tk_left (l8 _)]; exact V_le hw.first
    have v1 : V ((k.tail.drop 8).take 1) = k.prs.length := by rw [t8, tk_left (b1 _)]; exact V_le (by omega)
    rw [base 4 c, t9, v8, v1]
    exact K.ext' c.symm rfl rfl rfl rfl o1.symm rfl o2.symm (map_sm2 _) o3.symm o4.symm
  · obtain ⟨o1, o2, o3, o4⟩ := (only5 c).1 ho
    have ht : k.tail = leB k.frame 8 ++ leB k.sum 8 := by unfold K.tail; rw [if_neg (by omega), if_neg (by omega), if_neg (by omega), if_pos (by omega)]
    have t8 : k.tail.drop 8 = leB k.sum 8 := by rw [ht]; exact tk_drop (l8 _)
    have v8 : V (k.tail.take 8) = k.frame := by rw [ht, tk_left (l8 _)]; exact V_le hw.frame
    have v1 : V ((k.tail.drop 8).take 8) = k.sum := by rw [t8, List.take_of_length_le (by rw [l8]; decide)]; exact V_le hw.sum
    rw [base 5 c, v8, v1]
    exact K.ext' c.symm rfl rfl rfl rfl o1.symm o2.symm o3.symm o4.symm rfl rfl
theorem rK_wf (m : List UInt8) : (rK m).wf := by
  have y : ∀ a, numAt m a 0 < 18446744073709551616 := fun a => numAt_lt m a 0
  have z : (0 : Nat) < 18446744073709551616 := by decide
  have hc := (sm m 0).toNat_lt
  have ite8 : ∀ (p : Prop) [Decidable p] a, (if p then numAt m a 0 else 0) < 18446744073709551616 := fun p _ a => by split; exact y a; exact z
  refine ⟨⟨?_, ?_⟩, (sm m 1).toNat_lt, y 2, y 10, y 18, ite8 _ _, ite8 _ _, ite8 _ _, ite8 _ _⟩
  · show -9223372036854775808 ≤ (((sm m 0).toNat : Nat) : Int); omega
  · show (((sm m 0).toNat : Nat) : Int) ≤ 9223372036854775807; omega
/-- The document's way comes to the same packet. -/
theorem pT_doc (l : List UInt8) : pT l = if fnE l ≠ 0 then (K.zero, fnE l) else if fnU l = l.length ∧ docMay (rK (fnP l)) = true ∧ (rK (fnP l)).pay = fnP l then (rK (fnP l), 0) else (K.zero, 4) := by
  unfold pT
  by_cases h1 : fnE l ≠ 0
  · rw [if_pos h1, if_pos h1]
  rw [if_neg h1, if_neg h1]
  by_cases h2 : fnU l = l.length
  case neg => rw [if_neg h2, if_neg (fun h => h2 h.1)]
  rw [if_pos h2]
  generalize fnP l = m
  by_cases h3 : docMay (rK m) = true ∧ (rK m).pay = m
  · rw [if_pos ⟨h2, h3.1, h3.2⟩]
    obtain ⟨hm, ho⟩ := (docMay_iff _).1 h3.1
    obtain ⟨l1, l2⟩ := hm.lens
    have hw := rK_wf m
    have hpp : parP m = some (rK m) := by
      have e := h3.2
      have h5 := hm.1
      have h6 := hm.2.1
      generalize rK m = k at *
      subst e
      show par (UInt8.ofNat k.kind.toNat).toNat k.body = some k
      have hc : (UInt8.ofNat k.kind.toNat).toNat = k.kind.toNat := by rw [UInt8.toNat_ofNat']; omega
      rw [hc, par_body hw k.kind.toNat (by omega) (by omega) l1 l2, ho]
    rw [pTin_some hpp, if_pos hm]
  · rw [if_neg (fun h => h3 ⟨h.2.1, h.2.2⟩)]
    cases hp : parP m with
    | none => exact pTin_none hp
    | some k =>
      rw [pTin_some hp]
      by_cases hm : k.may
      case neg => rw [if_neg hm]
      exfalso
      obtain ⟨l1, l2⟩ := hm.lens
      have h5 := hm.1
      have h6 := hm.2.1
      cases m with
      | nil => cases hp
      | cons c m =>
        have hp' : par c.toNat m = some k := hp
        have hkc := par_kind hp'
        obtain ⟨e1, e2, e3⟩ := par_back hp' (by omega) l1 l2
        have hw := par_wf hp' c.toNat_lt
        have hpay : k.pay = c :: m := by
          unfold K.pay
          rw [e2, e1]
          simp
        have hr := rK_pay hw hm e3
        rw [hpay] at hr
        exact h3 ⟨by rw [hr]; exact (docMay_iff k).2 ⟨hm, e3⟩, by rw [hr]; exact hpay⟩
end Go.Proofs.YtdgbililgkhjfaaDoor.Pk
