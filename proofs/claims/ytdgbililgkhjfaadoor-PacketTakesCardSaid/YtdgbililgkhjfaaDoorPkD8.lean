/- What the document's 'Take' answers: walked. Condition: the size. -/
import Derived.Test.YtdgbililgkhjfaaDoorPkD7
import Derived.Test.YtdgbililgkhjfaaDoorDrawG
import Derived.Deep.AppendLies
import Derived.Deep.RegionLawGrows
import Derived.Deep.CutBlock
import Derived.Deep.DeepCutAuto
namespace Go.Proofs.YtdgbililgkhjfaaDoor.Pk
open Go.RowKit Go.Proofs.YtdgbililgkhjfaaDoor.Crc Go.Proofs.YtdgbililgkhjfaaDoor.Codec Go.Proofs.YtdgbililgkhjfaaDoor.Frame
set_option linter.unusedVariables false
set_option linter.unusedSimpArgs false
abbrev RT := 34
theorem rend_take {W : World} {g : Nat} {k : K} {vi vp : Value} {e : Int} (tmps : Array Value) (h2 : tmps.getD 2 undef = .pointer (some ⟨g, 0, none⟩)) (h3 : tmps.getD 3 undef = .int .i64 e) (hb : Blk W g (pc k vi vp) RT) :
    (results Tryd.f23 tmps).run Tryd.prog W = .ok (.tuple #[.agg (pc k vi vp), .int .i64 e]) W := by
  rw [results_cell_tmp (p := 2) (u := 3) (ty := RT) rfl, h2, h3]
  show Result.andThen (.ok (⟨g, 0, none⟩ : Addr) W) _ = _
  rw [Result.andThen_ok, run_loadVar_row W g _ RT (pc k vi vp) (0, 0) _ hb Tryd.underlying34 rfl (by kernel_rfl), Result.andThen_ok]
theorem rtook_end {k : K} {e : Int} {w W : World} {g : Nat} {k0 : K} {vi0 vp0 vi vp : Value} {tmps : Array Value} (h2 : tmps.getD 2 undef = .pointer (some ⟨g, 0, none⟩)) (h3 : tmps.getD 3 undef = .int .i64 e)
    (hb : Blk W g (pc k0 vi0 vp0) RT) (hB : Below w.heap.size w W) (hg : w.heap.size ≤ g) (hi : Ins (W.setRow g (pc k vi vp)) vi k.ins) (hp : Prs (W.setRow g (pc k vi vp)) vp k.prs) :
    bodyPost Tryd.prog Tryd.f23 (TookK (k, e) w) Exit.ret ⟨tmps, []⟩ (W.setRow g (pc k vi vp)) := by
  refine bodyPost_ret (v := .tuple #[.agg (pc k vi vp), .int .i64 e]) ?_ rfl ⟨⟨vi, vp, rfl, hi, hp⟩, below_setRow hB hg _⟩
  exact rend_take tmps h2 h3 (setRow_heap _ _ _ _ _ _ hb)
abbrev nl : Value := .slice none 0 0
set_option maxRecDepth 100000 in
/-- There is no frame. -/
theorem rtake_none (s : ByteArray) (w : World) (hs : s.size ≤ maxLen) (he : fnE s.data.toList ≠ 0) :
    Calls Tryd.prog 23 #[.string s] w (TookK (pT s.data.toList) w) := by
  have hpt : pT s.data.toList = (K.zero, fnE s.data.toList) := by unfold pT; rw [if_pos he]
  rw [hpt]
  have HN := Lib.hid (fun W => rnext_any s W hs)
  clear hpt hs
  generalize fnE s.data.toList = E at *
  generalize bs (fnP s.data.toList) = P at *
  generalize fnU s.data.toList = U at *
  have hne : (E != 0) = true := by rw [bne_iff_ne]; exact he
  go_enter Tryd.func23, Tryd.ntmps23
  go_wp2_with fail
  refine (HN.out _).mono ?_
  rintro r w1 ⟨rfl, hb1⟩
  have hB1 : Below w.heap.size w w1 := ((Below.refl _ w).alloc (Nat.le_refl _) _).trans (hb1.mono (by simp))
  have hres : Blk w1 w.heap.size (pc K.zero nl nl) RT := (hb1.block _ (by simp)).trans (heap_alloc_new w _)
  clear hb1
  go_wp2_with (refine rstore_pk (.tmp 2) (.tmp 19) w.heap.size K.zero K.zero _ _ _ _ slnil hres rfl rfl rfl rfl rfl ?_)
  exact rtook_end rfl rfl hres hB1 (Nat.le_refl _) (ins_nil _) (prs_nil _)
/-- The packet ahead of its kind's fields. -/
def rK0 (c : Nat) (m : List UInt8) : K := ⟨c, (sm m 1).toNat, numAt m 2 0, numAt m 10 0, numAt m 18 0, 0, 0, [], [], 0, 0⟩
theorem rK_eq (m : List UInt8) (c n : Nat) (hc : c = (sm m 0).toNat) (hn : n = (sm m 34).toNat) : rK m = ⟨c, (sm m 1).toNat, numAt m 2 0, numAt m 10 0, numAt m 18 0, if c = 1 ∨ c = 2 then numAt m 26 0 else 0, if c = 3 ∨ c = 4 then numAt m 26 0 else 0,
    if c = 3 then (List.range n).map (fun i => sm m (35 + i)) else [], if c = 4 then (List.range n).map (fun i => (sm m (35 + 2 * i), sm m (36 + 2 * i))) else [], if c = 5 then numAt m 26 0 else 0, if c = 5 then numAt m 34 0 else 0⟩ := by
  subst hc; subst hn; rfl
/-- The switch has filled the packet. -/
def Filled (w : World) (q : Nat) (m : List UInt8) (wx : World) : Prop :=
  (∃ vi vp, Blk wx q (pc (rK m) vi vp) RT ∧ (∀ w', Kp wx.heap.size w.heap.size wx w' → Ins w' vi (rK m).ins) ∧ (∀ w', Kp wx.heap.size w.heap.size wx w' → Prs w' vp (rK m).prs)) ∧ Blk wx w.heap.size (pc K.zero nl nl) RT ∧ Below w.heap.size w wx
theorem blk_far {W : World} {g q : Nat} {cs : Array Value} {t : TypeId} (h : Blk W g cs t) (hne : q ≠ g) (o : Nat) (v : Value) : Blk (W.setCell ⟨q, o, none⟩ v) g cs t := by
  show (W.heap.modify q _)[g]? = _
  rw [Array.getElem?_modify, if_neg hne]; exact h
theorem own_far {W : World} {B q sz n : Nat} {e : TypeId} {v : Value} {xs : List Value} (h : W.ownsRow B e sz v n xs) (hq : q < B) (o : Nat) (u : Value) : (W.setCell ⟨q, o, none⟩ u).ownsRow B e sz v n xs := by
  refine ⟨h.1, ?_⟩
  rcases h.2 with h5 | ⟨g, cap, cur, e1, hb1, hg, hrest⟩
  · exact .inl h5
  · refine .inr ⟨g, cap, cur, e1, hb1, ?_, hrest⟩
    show (W.heap.modify q _)[g]? = _
    rw [Array.getElem?_modify, if_neg (by omega)]; exact hg
theorem own_kp {W W' : World} {B g sz n : Nat} {e : TypeId} {v : Value} {xs : List Value} (h : W.ownsRow B e sz v n xs) (hk : Kp W.heap.size g W W') (hg : g < B) : W'.ownsRow B e sz v n xs := by
  refine ⟨h.1, ?_⟩
  rcases h.2 with h5 | ⟨b, cap, cur, e1, hb1, hb, hrest⟩
  · exact .inl h5
  · exact .inr ⟨b, cap, cur, e1, hb1, (hk.block b (lt_of_block hb) (by omega)).trans hb, hrest⟩
theorem own_ins {W : World} {B : Nat} {e : TypeId} {v : Value} {n : Nat} {l : List UInt8} (h : W.ownsRow B e 1 v n (l.map bc)) (hn : n ≤ 1000000) : Ins W v l := by
  have hl : l.length = n := by have := h.1; simpa using this
  by_cases h0 : 0 < n
  · obtain ⟨g, c, rfl, _, hr⟩ := Rw.of_own h h0
    exact rw_ins hr hl.symm (by omega)
  · obtain rfl : n = 0 := by omega
    obtain rfl : l = [] := List.eq_nil_of_length_eq_zero hl
    rcases h.2 with ⟨rfl, _⟩ | ⟨g, cap, cur, rfl, _⟩
    · exact ins_nil W
    · exact ⟨_, _, rfl, by decide, fun i hi => absurd hi (Nat.not_lt_zero _)⟩
theorem pcells_app (l m : List (UInt8 × UInt8)) : pcells (l ++ m) = pcells l ++ pcells m := by
  rw [pcells_flat, pcells_flat, pcells_flat, flat_app, List.map_append]
theorem own_prs {W : World} {B : Nat} {e : TypeId} {v : Value} {n : Nat} {l : List (UInt8 × UInt8)} (h : W.ownsRow B e 2 v n (pcells l)) (hn : n ≤ 1000000) : Prs W v l := by
  have hl : l.length = n := by have := h.1; rw [pcells_length] at this; omega
  by_cases h0 : 0 < n
  · obtain ⟨g, c, rfl, _, hr⟩ := Rw.of_own h h0
    rw [pcells_flat] at hr
    exact rw_prs hr hl.symm (by omega)
  · obtain rfl : n = 0 := by omega
    obtain rfl : l = [] := List.eq_nil_of_length_eq_zero hl
    rcases h.2 with ⟨rfl, _⟩ | ⟨g, cap, cur, rfl, _⟩
    · exact prs_nil W
    · exact ⟨_, _, rfl, by decide, fun i hi => absurd hi (Nat.not_lt_zero _)⟩
theorem own_below {W W' : World} {B sz n : Nat} {e : TypeId} {v : Value} {xs : List Value} (h : W.ownsRow B e sz v n xs) (hk : Below W.heap.size W W') : W'.ownsRow B e sz v n xs := by
  refine ⟨h.1, ?_⟩
  rcases h.2 with h5 | ⟨b, cap, cur, e1, hb1, hb, hrest⟩
  · exact .inl h5
  · exact .inr ⟨b, cap, cur, e1, hb1, (hk.block b (lt_of_block hb)).trans hb, hrest⟩
/-- A new block, and a slice of one element over it. -/
def RowT (t : TypeId) (cs : Array Value) (W : World) (v : Value) : Prop := ∃ g, v = .slice (some ⟨g, 0, none⟩) 1 1 ∧ Blk W g cs t
theorem RowT.call {t : TypeId} {cs : Array Value} {W W' : World} {v : Value} (h : RowT t cs W v) (hb : Below W.heap.size W W') : RowT t cs W' v := by
  obtain ⟨g, h1, h2⟩ := h
  exact ⟨g, h1, (hb.block _ h2.lt).trans h2⟩
theorem kp_setRow {W : World} {B g : Nat} (cs : Array Value) : Kp B g W (W.setRow g cs) := ⟨rfl, rfl, rfl, by simp [World.setRow], fun k _ hk => by
  show (W.heap.modify g _)[k]? = _
  rw [Array.getElem?_modify, if_neg (fun e => hk e.symm)]⟩
set_option maxRecDepth 100000 in
set_option maxHeartbeats 8000000 in
/-- There is one. -/
theorem rtake_some (s : ByteArray) (w : World) (hs : s.size ≤ maxLen) (he : fnE s.data.toList = 0) :
    Calls Tryd.prog 23 #[.string s] w (TookK (pT s.data.toList) w) := by
  have hlen : s.data.toList.length = s.size := by simp
  have hpt := pT_doc s.data.toList
  rw [if_neg (by rw [he]; decide), hlen] at hpt
  have HN := Lib.hid (fun W => rnext_any s W hs)
  have hpl : (fnP s.data.toList).length ≤ 4096 := (fn_ok he).2.2
  rw [he] at HN
  have hs2 : s.size ≤ 9223372036854775807 := hs
  have hU : fnU s.data.toList ≤ 9223372036854775807 := by have := (fn_ok he).2.1; omega
  generalize fnP s.data.toList = m at *
  generalize fnU s.data.toList = U at *
  generalize pT s.data.toList = PT at *
  have HPT := Lib.hid hpt
  have hms : (bs m).size ≤ maxLen := by rw [bs_size]; unfold maxLen; omega
  have hsm := fun j W (hj : j ≤ 1000000) => small_any (bs m) j W hms hj
  have hnu := fun j W (hj : j ≤ 1000) => number_any (bs m) j W hms hj
  rw [bs_toList] at hsm hnu
  have HS := Lib.hid hsm
  have HU := Lib.hid hnu
  generalize hX : bs m = X at *
  have HX := Lib.hid hX
  clear hpt hpl hs he hlen hms hsm hnu hX
  obtain ⟨c, hc⟩ : ∃ c, c = (sm m 0).toNat := ⟨_, rfl⟩
  obtain ⟨n, hn⟩ : ∃ n, n = (sm m 34).toNat := ⟨_, rfl⟩
  have hc1 : c < 256 := by rw [hc]; exact UInt8.toNat_lt _
  have hn1 : n < 256 := by rw [hn]; exact UInt8.toNat_lt _
  have HC := Lib.hid hc
  have HNN := Lib.hid hn
  have S0 := Lib.hid (fun W => HS.out 0 W (by decide))
  have S34 := Lib.hid (fun W => HS.out 34 W (by decide))
  rw [← hc] at S0
  rw [← hn] at S34
  clear hc hn
  have hcw : IntKind.i64.wrap (c : Int) = (c : Int) := IntWalk.i64_in _ (by omega)
  have hnw : IntKind.i64.wrap (n : Int) = (n : Int) := IntWalk.i64_in _ (by omega)
  go_enter Tryd.func23, Tryd.ntmps23
  go_wp2_with fail
  refine (HN.out _).mono ?_
  rintro r w1 ⟨rfl, hb1⟩
  have hB1 : Below w.heap.size w w1 := ((Below.refl _ w).alloc (Nat.le_refl _) _).trans (hb1.mono (by simp))
  have hres : Blk w1 w.heap.size (pc K.zero nl nl) RT := (hb1.block _ (by simp)).trans (heap_alloc_new w _)
  have hl1 := hres.lt
  clear hb1 HN
  go_wp2_with fail
  refine (S0.out _).mono ?_
  rintro r w' ⟨rfl, rfl⟩
  go_wp2_with fail
  refine (HS.out 1 _ (by decide)).mono ?_
  rintro r w' ⟨rfl, rfl⟩
  go_wp2_with fail
  refine (HU.out 2 _ (by decide)).mono ?_
  rintro r w' ⟨rfl, rfl⟩
  go_wp2_with fail
  refine (HU.out 10 _ (by decide)).mono ?_
  rintro r w' ⟨rfl, rfl⟩
  go_wp2_with fail
  refine (HU.out 18 _ (by decide)).mono ?_
  rintro r w' ⟨rfl, rfl⟩
  go_wp2_with fail
  refine (S34.out _).mono ?_
  rintro r w' ⟨rfl, rfl⟩
  go_upto_block 0 with fail
  have hq1 : Blk (w1.alloc (.cells (pc (rK0 c m) nl nl) RT)) w1.heap.size (pc (rK0 c m) nl nl) RT := heap_alloc_new w1 _
  have hg1 : Blk (w1.alloc (.cells (pc (rK0 c m) nl nl) RT)) w.heap.size (pc K.zero nl nl) RT := hres.alloc _
  have hB2 : Below w.heap.size w (w1.alloc (.cells (pc (rK0 c m) nl nl) RT)) := hB1.alloc (Nat.le_of_lt hl1) _
  change Code.wp _ _ _ _ (w1.alloc (.cells (pc (rK0 c m) nl nl) RT))
  generalize w1.alloc (.cells (pc (rK0 c m) nl nl) RT) = w2 at *
  generalize w1.heap.size = q at *
  clear hB1 hres
  go_cut [] (fun wx => Filled w q m wx)
  case rest =>
    obtain ⟨⟨vi, vp, hbq, hii, hpp⟩, hbg, hbel⟩ := hcut
    by_cases hu : U = s.size
    case neg =>
      obtain rfl : PT = (K.zero, 4) := HPT.out.trans (if_neg fun h => hu h.1)
      have hne : ((U : Int) != (s.size : Int)) = true := by rw [bne_iff_ne]; omega
      clear hbq hii hpp hu HPT
      go_wp2_with (refine rstore_pk (.tmp 2) (.tmp 112) w.heap.size K.zero K.zero _ _ _ _ slnil hbg rfl rfl rfl rfl rfl ?_)
      exact rtook_end rfl rfl hbg hbel (Nat.le_refl _) (ins_nil _) (prs_nil _)
    case pos =>
      have hne : ((U : Int) != (s.size : Int)) = false := by rw [bne_eq_false_iff_eq]; omega
      have hMY := fun W (h : Below wc.heap.size wc W) => rmay_any (rK m) vi vp W (rK_wf m) (hii W (Kp.of_below h)) (hpp W (Kp.of_below h))
      by_cases hd : docMay (rK m) = true
      case neg =>
        obtain rfl : PT = (K.zero, 4) := HPT.out.trans (if_neg fun h => hd h.2.1)
        rw [Bool.not_eq_true] at hd
        rw [hd] at hMY
        have HM := Lib.hid hMY
        clear hMY hii hpp hu HPT hd
        go_wp2_with (refine rload_pkg (.tmp 7) q (rK m) vi vp hbq rfl rfl rfl ?_)
        refine (HM.out _ (Below.refl _ _)).mono ?_
        rintro e w3 ⟨rfl, hb3⟩
        have hbg3 : Blk w3 w.heap.size (pc K.zero nl nl) RT := (hb3.block _ hbg.lt).trans hbg
        have hbel3 := hbel.trans (hb3.mono hbel.size)
        clear hb3 hbel
        go_wp2_with (refine rstore_pk (.tmp 2) (.tmp 112) w.heap.size K.zero K.zero _ _ _ _ slnil hbg3 rfl rfl rfl rfl rfl ?_)
        exact rtook_end rfl rfl hbg3 hbel3 (Nat.le_refl _) (ins_nil _) (prs_nil _)
      case pos =>
        rw [hd] at hMY
        have hmay := ((docMay_iff _).1 hd).1
        have hPY := fun W (h : Below wc.heap.size wc W) => rpay_any (rK m) vi vp W (rK_wf m) (hii W (Kp.of_below h)) (hpp W (Kp.of_below h)) hmay
        have HM := Lib.hid hMY
        have HP := Lib.hid hPY
        have HII := Lib.hid hii
        have HPP := Lib.hid hpp
        have hsl := sl_of (hii wc (Kp.refl _ _ _)) (hpp wc (Kp.refl _ _ _))
        clear hMY hPY hii hpp
        go_wp2_with (refine rload_pkg (.tmp 7) q (rK m) vi vp hbq rfl rfl rfl ?_)
        refine (HM.out _ (Below.refl _ _)).mono ?_
        rintro e w3 ⟨rfl, hb3⟩
        have hbq3 : Blk w3 q (pc (rK m) vi vp) RT := (hb3.block _ hbq.lt).trans hbq
        go_wp2_with (refine rload_pkg (.tmp 7) q (rK m) vi vp hbq3 rfl rfl rfl ?_)
        refine (HP.out _ hb3).mono ?_
        rintro e w4 ⟨rfl, hb4⟩
        have hb4' : Below wc.heap.size wc w4 := hb3.trans (hb4.mono hb3.size)
        have hbq4 : Blk w4 q (pc (rK m) vi vp) RT := (hb4'.block _ hbq.lt).trans hbq
        have hbg4 : Blk w4 w.heap.size (pc K.zero nl nl) RT := (hb4'.block _ hbg.lt).trans hbg
        have hbel4 := hbel.trans (hb4'.mono hbel.size)
        have HB4 := Lib.hid hb4'
        clear hb3 hb4 hb4' hbq3 hbq hbg hbel HM HP
        by_cases hy : (rK m).pay = m
        · obtain rfl : PT = (rK m, 0) := HPT.out.trans (if_pos ⟨hu, hd, hy⟩)
          have teq : ((bs (rK m).pay).toList == X.toList) = true := str_eq (by rw [← HX.out, hy])
          clear hy HPT hu hd hmay
          generalize bs (rK m).pay = Y at *
          go_wp2_with (first | (refine rload_pk (.tmp 7) q (rK m) vi vp hbq4 rfl rfl rfl ?_) | (refine rstore_pk (.tmp 2) (.tmp 113) w.heap.size K.zero (rK m) _ _ vi vp hsl hbg4 rfl rfl rfl rfl rfl ?_))
          exact rtook_end rfl rfl hbg4 hbel4 (Nat.le_refl _) (HII.out _ ((Kp.of_below HB4.out).trans (kp_setRow _))) (HPP.out _ ((Kp.of_below HB4.out).trans (kp_setRow _)))
        · obtain rfl : PT = (K.zero, 4) := HPT.out.trans (if_neg fun h => hy h.2.2)
          have teq : ((bs (rK m).pay).toList == X.toList) = false := str_ne (by rw [← HX.out, bs_toList, bs_toList]; exact hy)
          clear hy HPT hu hd hmay
          generalize bs (rK m).pay = Y at *
          go_wp2_with (refine rstore_pk (.tmp 2) (.tmp 112) w.heap.size K.zero K.zero _ _ _ _ slnil hbg4 rfl rfl rfl rfl rfl ?_)
          exact rtook_end rfl rfl hbg4 hbel4 (Nat.le_refl _) (ins_nil _) (prs_nil _)
  case first =>
    by_cases h1 : c = 1
    · subst h1
      have HK := Lib.hid (show rK m = ⟨1, (sm m 1).toNat, numAt m 2 0, numAt m 10 0, numAt m 18 0, numAt m 26 0, 0, [], [], 0, 0⟩ by rw [rK_eq m 1 n HC.out HNN.out]; rfl)
      have c5 : w2.cell? ⟨q, 5, none⟩ = some (.int .u64 0) := hq1.cell _ rfl
      have f5 : w2.frozen? ⟨q, 5, none⟩ = false := hq1.free
      have HQ := Lib.hid (hq1.set (off := 5) (.int .u64 (numAt m 26 0 : Nat)))
      have HG := Lib.hid (blk_far hg1 (by omega : q ≠ w.heap.size) 5 (.int .u64 (numAt m 26 0 : Nat)))
      have HL := Lib.hid (hB2.setCell (p := ⟨q, 5, none⟩) (by show w.heap.size ≤ q; omega) (.int .u64 (numAt m 26 0 : Nat)))
      clear hq1 hg1 hB2 hcw
      go_wp2_with fail
      refine (HU.out 26 _ (by decide)).mono ?_
      rintro e w' ⟨rfl, rfl⟩
      go_wp2
      go_meet
      exact ⟨⟨nl, nl, by rw [HK.out]; exact HQ.out, fun w' _ => by rw [HK.out]; exact ins_nil _, fun w' _ => by rw [HK.out]; exact prs_nil _⟩, HG.out, HL.out⟩
    by_cases h2 : c = 2
    · subst h2
      have HK := Lib.hid (show rK m = ⟨2, (sm m 1).toNat, numAt m 2 0, numAt m 10 0, numAt m 18 0, numAt m 26 0, 0, [], [], 0, 0⟩ by rw [rK_eq m 2 n HC.out HNN.out]; rfl)
      have c5 : w2.cell? ⟨q, 5, none⟩ = some (.int .u64 0) := hq1.cell _ rfl
      have f5 : w2.frozen? ⟨q, 5, none⟩ = false := hq1.free
      have HQ := Lib.hid (hq1.set (off := 5) (.int .u64 (numAt m 26 0 : Nat)))
      have HG := Lib.hid (blk_far hg1 (by omega : q ≠ w.heap.size) 5 (.int .u64 (numAt m 26 0 : Nat)))
      have HL := Lib.hid (hB2.setCell (p := ⟨q, 5, none⟩) (by show w.heap.size ≤ q; omega) (.int .u64 (numAt m 26 0 : Nat)))
      clear hq1 hg1 hB2 hcw
      go_wp2_with fail
      refine (HU.out 26 _ (by decide)).mono ?_
      rintro e w' ⟨rfl, rfl⟩
      go_wp2
      go_meet
      exact ⟨⟨nl, nl, by rw [HK.out]; exact HQ.out, fun w' _ => by rw [HK.out]; exact ins_nil _, fun w' _ => by rw [HK.out]; exact prs_nil _⟩, HG.out, HL.out⟩
    by_cases h3 : c = 3
    · subst h3
      have HK := Lib.hid (show rK m = ⟨3, (sm m 1).toNat, numAt m 2 0, numAt m 10 0, numAt m 18 0, 0, numAt m 26 0, ((List.range n).map fun i => sm m (35 + i)), [], 0, 0⟩ by rw [rK_eq m 3 n HC.out HNN.out]; rfl)
      obtain ⟨i0, hi, hz0, hz1, hz2⟩ := info_parts infoI
      have c6 : w2.cell? ⟨q, 6, none⟩ = some (.int .u64 0) := hq1.cell _ rfl
      have f6 : w2.frozen? ⟨q, 6, none⟩ = false := hq1.free
      have HQ := Lib.hid (hq1.set (off := 6) (.int .u64 (numAt m 26 0 : Nat)))
      have HG := Lib.hid (blk_far hg1 (by omega : q ≠ w.heap.size) 6 (.int .u64 (numAt m 26 0 : Nat)))
      have HL := Lib.hid (hB2.setCell (p := ⟨q, 6, none⟩) (by show w.heap.size ≤ q; omega) (.int .u64 (numAt m 26 0 : Nat)))
      clear hq1 hg1 hB2 hcw
      go_wp2_with fail
      refine (HU.out 26 _ (by decide)).mono ?_
      rintro e w' ⟨rfl, rfl⟩
      go_wp2_with fail
      go_loopw [9] (fun i wr => ∃ (j : Nat) (v : Value), j ≤ n ∧ i = .int .i64 j ∧ Blk wr q (pc ⟨3, (sm m 1).toNat, numAt m 2 0, numAt m 10 0, numAt m 18 0, 0, numAt m 26 0, [], [], 0, 0⟩ v nl) RT ∧ wr.ownsRow (q + 1) 42 1 v j (((List.range j).map fun i => sm m (35 + i)).map bc) ∧ Blk wr w.heap.size (pc K.zero nl nl) RT ∧ Below w.heap.size w wr) (fun i _ => n - (intOf i).toNat)
      case atStart => exact ⟨0, nl, Nat.zero_le _, rfl, HQ.out, World.ownsRow_nil _ _ _ _, HG.out, HL.out⟩
      case round =>
        obtain ⟨j, v, hj, rfl, hbq, hown, hbg, hbel⟩ := hrel
        by_cases hlt : j < n
        · have c7 : wr.cell? ⟨q, 7, none⟩ = some v := hbq.cell _ rfl
          have f7 : wr.frozen? ⟨q, 7, none⟩ = false := hbq.free
          have hlq := hbq.lt
          have hlg := hbg.lt
          obtain ⟨p, hp⟩ : ∃ p, p = 35 + j := ⟨_, rfl⟩
          have e1 : IntKind.i64.wrap (35 + (j : Int)) = (p : Int) := by rw [IntWalk.i64_in _ (by omega)]; omega
          have hcall := fun W => HS.out p W (by omega)
          have hsn : ((List.range (j + 1)).map fun i => sm m (35 + i)).map bc = ((List.range j).map fun i => sm m (35 + i)).map bc ++ [.int .u8 (sm m p).toNat] := by rw [hp, List.range_succ, List.map_append, List.map_append]; rfl
          generalize sm m p = x at *
          have HC1 := Lib.hid hcall
          have HSN := Lib.hid hsn
          have hlen1 : j + 1 ≤ maxLen := by unfold maxLen; omega
          have hlen2 : (j + 1) * 1 ≤ 140737488355328 := by omega
          have hnq : some q ≠ v.ownBlock := fun e => by have := (hown.lt q e.symm).1; omega
          have hng : some w.heap.size ≠ v.ownBlock := fun e => by have := (hown.lt _ e.symm).1; omega
          clear hsn hp hcall
          go_wp2
          refine Draw.wp_region_prefix 7 (fun W => Below wr.heap.size wr W) (fun W W' => Below W.heap.size W W') (fun i W vv => match i with
              | 0 => vv = .pointer (some ⟨q, 7, none⟩)
              | 1 => vv = v
              | 2 => vv = .string X
              | 3 => vv = .int .i64 j
              | 4 => vv = .int .i64 p
              | 5 => vv = .int .u8 x.toNat
              | _ => RowT 42 #[.int .u8 x.toNat] W vv) (by kernel_rfl) (by kernel_rfl) (by decide) rfl (by decide) (by decide) (by decide) ?_ (Below.refl _ wr).drew ?_ [54, 55, 56, 57, 58, 59, 60] (by rfl) 3 (by rfl) ?_
          · intro i W W' vv he hf
            match i with
            | n + 6 => exact RowT.call hf he
            | 0 | 1 | 2 | 3 | 4 | 5 => exact hf
          · refine ⟨?_, ?_, ?_, ?_, ?_, ?_, ?_, trivial⟩
            all_goals intro ρ W hJ hc hf hKn
            · refine Draw.Goes.plain rfl ?_
              have h0 : ρ (.tmp 7) = .pointer (some ⟨q, 0, none⟩) := hKn.1.2 7 rfl
              refine Draw.Runs.value (w' := W) (v := .pointer (some ⟨q, 7, none⟩)) ?_ ⟨hJ, Below.refl _ _, rfl⟩
              simp only [execOp]; go_simp
            · refine Draw.Goes.plain rfl ?_
              have h0 : ρ (.tmp 54) = .pointer (some ⟨q, 7, none⟩) := hKn.1.get 0 54 rfl rfl
              have c : W.cell? ⟨q, 7, none⟩ = some (v) := (hJ.cell (p := ⟨q, 7, none⟩) hlq).trans c7
              refine Draw.Runs.value (w' := W) (v := v) ?_ ⟨hJ, Below.refl _ _, rfl⟩
              simp only [execOp]; go_simp
            · refine Draw.Goes.plain rfl ?_
              exact Draw.Runs.value (w' := W) (v := ρ (.tmp 4)) rfl ⟨hJ, Below.refl _ _, hKn.1.2 4 rfl⟩
            · refine Draw.Goes.plain rfl ?_
              exact Draw.Runs.value (w' := W) (v := ρ (.tmp 9)) rfl ⟨hJ, Below.refl _ _, hKn.1.2 9 rfl⟩
            · refine Draw.Goes.plain rfl ?_
              have h0 : ρ (.tmp 57) = .int .i64 j := hKn.1.get 3 57 rfl rfl
              refine Draw.Runs.value (w' := W) (v := .int .i64 p) ?_ ⟨hJ, Below.refl _ _, rfl⟩
              simp only [execOp]; go_simp
            · refine Draw.Goes.plain rfl ?_
              have h0 : ρ (.tmp 56) = .string X := hKn.1.get 2 56 rfl rfl
              have h1 : ρ (.tmp 58) = .int .i64 p := hKn.1.get 4 58 rfl rfl
              refine Draw.Runs.enter (f := 71) (args := #[.string X, .int .i64 p]) ?_ ((HC1.out W).mono fun e W' ⟨he, hb⟩ => ⟨_, he, hb ▸ hJ, hb ▸ Below.refl _ _, rfl⟩)
              simp only [execOp]; go_simp
            · refine Draw.Goes.plain rfl ?_
              have h0 : ρ (.tmp 59) = .int .u8 x.toNat := hKn.1.get 5 59 rfl rfl
              refine Draw.Runs.value (w' := W.alloc (.cells #[.int .u8 x.toNat] 42)) (v := .slice (some ⟨W.heap.size, 0, none⟩) 1 1) ?_ ⟨(hJ.trans (Below.mono (bel_alloc _ _) hJ.size)), bel_alloc _ _, W.heap.size, rfl, heap_alloc_new W _⟩
              simp only [execOp]; go_simp
          · intro u W hJ hf
            have r55 : u 55 = v := hf 1 _ 55 (by decide) rfl rfl
            obtain ⟨gg60, r60, hb60⟩ : RowT 42 #[.int .u8 x.toNat] W (u 60) := hf 6 _ 60 (by decide) rfl rfl
            simp only [List.foldl_cons, List.foldl_nil, List.setIfInBounds_toArray, List.set_cons_succ, List.set_cons_zero, r55, r60]
            have hbq3 : Blk W q _ RT := (hJ.block _ hlq).trans hbq
            have hbg3 : Blk W w.heap.size (pc K.zero nl nl) RT := (hJ.block _ hlg).trans hbg
            have hown1 := own_below hown hJ
            have hbel1 := hbel.trans (hJ.mono hbel.size)
            have hszq := hbq3.lt
            have hszg := hbg3.lt
            refine Draw.wpAny_one (i := 7) (by kernel_rfl) rfl rfl ?_
            refine wp_append_lies W (.tmp 55) (.tmp 60) 23 rfl (q + 1) 42 i0 (.int .u8 0) 1 1 Tryd.underlying23 hi hz0 hz1 hz2 rfl (by decide) v j _ rfl hown1 ⟨gg60, 0, none⟩ 1 1 [.int .u8 x.toNat] rfl rfl (World.news_of_block hb60) (by simp [Value.oneCell']) (by decide) hlen1 hlen2 (by omega) _ rfl ?_
            intro g cap w3 hown3 hgrow hat hlt3
            have hb3 : Blk w3 q _ RT := (hgrow.block q hszq hnq).trans hbq3
            have hg3 : Blk w3 w.heap.size (pc K.zero nl nl) RT := (hgrow.block _ hszg hng).trans hbg3
            have hbel3 : Below w.heap.size w w3 := hbel1.grown hgrow hbel1.size (fun k e => by have := (hown.lt k e).1; omega)
            have hcc := hb3.cell (off := 7) _ rfl
            have hff := hb3.free (off := 7)
            refine Draw.wpAny_one (i := 8) (by kernel_rfl) rfl rfl ?_
            refine Draw.wp_value (v := .pointer (some ⟨q, 7, none⟩)) (w' := w3) (by simp only [execOp]; go_simp) ?_
            refine Draw.wpAny_one (i := 9) (by kernel_rfl) rfl rfl ?_
            refine Draw.wp_skip (w' := w3.setCell ⟨q, 7, none⟩ (.slice (some ⟨g, 0, none⟩) (j + 1) cap)) (by simp only [execOp]; go_simp) ?_
            refine Draw.wpAny_end (by kernel_rfl) ?_
            have HB3 := Lib.hid (hb3.set (off := 7) (.slice (some ⟨g, 0, none⟩) (j + 1) cap))
            have HG3 := Lib.hid (blk_far hg3 (by omega : q ≠ w.heap.size) 7 (.slice (some ⟨g, 0, none⟩) (j + 1) cap))
            have HL3 := Lib.hid (hbel3.setCell (p := ⟨q, 7, none⟩) (by show w.heap.size ≤ q; omega) (.slice (some ⟨g, 0, none⟩) (j + 1) cap))
            have HO3 := Lib.hid (own_far hown3 (by omega : q < q + 1) 7 (.slice (some ⟨g, 0, none⟩) (j + 1) cap))
            clear hb3 hg3 hbel3 hown3 hgrow hcc hff hown hbq hbg hbel c7 f7 hbq3 hbg3 hown1 hbel1 hJ hf
            go_wp2
            go_roundw
            case rel => exact ⟨j + 1, _, by omega, by go_num, HB3.out, by rw [HSN.out]; exact HO3.out, HG3.out, HL3.out⟩
            case measure => simp [intOf]; omega
        · obtain rfl : j = n := by omega
          have HIN := Lib.hid (fun w' (hk : Kp wr.heap.size w.heap.size wr w') => own_ins (own_kp hown hk (by omega)) (by omega))
          have HBQ := Lib.hid hbq
          have HBG := Lib.hid hbg
          have HBL := Lib.hid hbel
          clear hown hbq hbg hbel
          go_wp2
          go_meet
          exact ⟨⟨v, nl, by rw [HK.out]; exact HBQ.out, fun w' hk => by rw [HK.out]; exact HIN.out w' hk, fun w' _ => by rw [HK.out]; exact prs_nil _⟩, HBG.out, HBL.out⟩
    by_cases h4 : c = 4
    · subst h4
      have HK := Lib.hid (show rK m = ⟨4, (sm m 1).toNat, numAt m 2 0, numAt m 10 0, numAt m 18 0, 0, numAt m 26 0, [], ((List.range n).map fun i => (sm m (35 + 2 * i), sm m (36 + 2 * i))), 0, 0⟩ by rw [rK_eq m 4 n HC.out HNN.out]; rfl)
      obtain ⟨i0, hi, hz0, hz1, hz2⟩ := info_parts infoP
      have c6 : w2.cell? ⟨q, 6, none⟩ = some (.int .u64 0) := hq1.cell _ rfl
      have f6 : w2.frozen? ⟨q, 6, none⟩ = false := hq1.free
      have HQ := Lib.hid (hq1.set (off := 6) (.int .u64 (numAt m 26 0 : Nat)))
      have HG := Lib.hid (blk_far hg1 (by omega : q ≠ w.heap.size) 6 (.int .u64 (numAt m 26 0 : Nat)))
      have HL := Lib.hid (hB2.setCell (p := ⟨q, 6, none⟩) (by show w.heap.size ≤ q; omega) (.int .u64 (numAt m 26 0 : Nat)))
      clear hq1 hg1 hB2 hcw
      go_wp2_with fail
      refine (HU.out 26 _ (by decide)).mono ?_
      rintro e w' ⟨rfl, rfl⟩
      go_wp2_with fail
      go_loopw [10] (fun i wr => ∃ (j : Nat) (v : Value), j ≤ n ∧ i = .int .i64 j ∧ Blk wr q (pc ⟨4, (sm m 1).toNat, numAt m 2 0, numAt m 10 0, numAt m 18 0, 0, numAt m 26 0, [], [], 0, 0⟩ nl v) RT ∧ wr.ownsRow (q + 1) 44 2 v j (pcells ((List.range j).map fun i => (sm m (35 + 2 * i), sm m (36 + 2 * i)))) ∧ Blk wr w.heap.size (pc K.zero nl nl) RT ∧ Below w.heap.size w wr) (fun i _ => n - (intOf i).toNat)
      case atStart => exact ⟨0, nl, Nat.zero_le _, rfl, HQ.out, World.ownsRow_nil _ _ _ _, HG.out, HL.out⟩
      case round =>
        obtain ⟨j, v, hj, rfl, hbq, hown, hbg, hbel⟩ := hrel
        by_cases hlt : j < n
        · have c8 : wr.cell? ⟨q, 8, none⟩ = some v := hbq.cell _ rfl
          have f8 : wr.frozen? ⟨q, 8, none⟩ = false := hbq.free
          have hlq := hbq.lt
          have hlg := hbg.lt
          obtain ⟨p2, hp2⟩ : ∃ p, p = 2 * j := ⟨_, rfl⟩
          obtain ⟨p, hp⟩ : ∃ p, p = 35 + 2 * j := ⟨_, rfl⟩
          obtain ⟨p', hp'⟩ : ∃ p, p = 36 + 2 * j := ⟨_, rfl⟩
          have e0 : IntKind.i64.wrap (2 * (j : Int)) = (p2 : Int) := by rw [IntWalk.i64_in _ (by omega)]; omega
          have e1 : IntKind.i64.wrap (35 + (p2 : Int)) = (p : Int) := by rw [IntWalk.i64_in _ (by omega)]; omega
          have e2 : IntKind.i64.wrap (36 + (p2 : Int)) = (p' : Int) := by rw [IntWalk.i64_in _ (by omega)]; omega
          have hcall := fun W => HS.out p W (by omega)
          have hcall' := fun W => HS.out p' W (by omega)
          have hsn : pcells ((List.range (j + 1)).map fun i => (sm m (35 + 2 * i), sm m (36 + 2 * i))) = pcells ((List.range j).map fun i => (sm m (35 + 2 * i), sm m (36 + 2 * i))) ++ [.int .u8 (sm m p).toNat, .int .u8 (sm m p').toNat] := by rw [hp, hp', List.range_succ, List.map_append, pcells_app]; rfl
          generalize sm m p = x at *
          generalize sm m p' = y at *
          have HC1 := Lib.hid hcall
          have HC2 := Lib.hid hcall'
          have HSN := Lib.hid hsn
          have hlen1 : j + 1 ≤ maxLen := by unfold maxLen; omega
          have hlen2 : (j + 1) * 2 ≤ 140737488355328 := by omega
          have hnq : some q ≠ v.ownBlock := fun e => by have := (hown.lt q e.symm).1; omega
          have hng : some w.heap.size ≠ v.ownBlock := fun e => by have := (hown.lt _ e.symm).1; omega
          clear hsn hp hp' hp2 hcall hcall'
          go_wp2
          refine Draw.wp_region_prefix 14 (fun W => Below wr.heap.size wr W) (fun W W' => Below W.heap.size W W') (fun i W vv => match i with
              | 0 => vv = .pointer (some ⟨q, 8, none⟩)
              | 1 => vv = v
              | 2 => vv = .string X
              | 3 => vv = .int .i64 j
              | 4 => vv = .int .i64 p2
              | 5 => vv = .int .i64 p
              | 6 => vv = .int .u8 x.toNat
              | 7 => vv = .string X
              | 8 => vv = .int .i64 j
              | 9 => vv = .int .i64 p2
              | 10 => vv = .int .i64 p'
              | 11 => vv = .int .u8 y.toNat
              | 12 => vv = .agg #[.int .u8 x.toNat, .int .u8 y.toNat]
              | _ => RowT 44 #[.int .u8 x.toNat, .int .u8 y.toNat] W vv) (by kernel_rfl) (by kernel_rfl) (by decide) rfl (by decide) (by decide) (by decide) ?_ (Below.refl _ wr).drew ?_ [73, 74, 75, 76, 77, 78, 79, 80, 81, 82, 83, 84, 85, 86] (by rfl) 3 (by rfl) ?_
          · intro i W W' vv he hf
            match i with
            | n + 13 => exact RowT.call hf he
            | 0 | 1 | 2 | 3 | 4 | 5 | 6 | 7 | 8 | 9 | 10 | 11 | 12 => exact hf
          · refine ⟨?_, ?_, ?_, ?_, ?_, ?_, ?_, ?_, ?_, ?_, ?_, ?_, ?_, ?_, trivial⟩
            all_goals intro ρ W hJ hc hf hKn
            · refine Draw.Goes.plain rfl ?_
              have h0 : ρ (.tmp 7) = .pointer (some ⟨q, 0, none⟩) := hKn.1.2 7 rfl
              refine Draw.Runs.value (w' := W) (v := .pointer (some ⟨q, 8, none⟩)) ?_ ⟨hJ, Below.refl _ _, rfl⟩
              simp only [execOp]; go_simp
            · refine Draw.Goes.plain rfl ?_
              have h0 : ρ (.tmp 73) = .pointer (some ⟨q, 8, none⟩) := hKn.1.get 0 73 rfl rfl
              have c : W.cell? ⟨q, 8, none⟩ = some (v) := (hJ.cell (p := ⟨q, 8, none⟩) hlq).trans c8
              refine Draw.Runs.value (w' := W) (v := v) ?_ ⟨hJ, Below.refl _ _, rfl⟩
              simp only [execOp]; go_simp
            · refine Draw.Goes.plain rfl ?_
              exact Draw.Runs.value (w' := W) (v := ρ (.tmp 4)) rfl ⟨hJ, Below.refl _ _, hKn.1.2 4 rfl⟩
            · refine Draw.Goes.plain rfl ?_
              exact Draw.Runs.value (w' := W) (v := ρ (.tmp 10)) rfl ⟨hJ, Below.refl _ _, hKn.1.2 10 rfl⟩
            · refine Draw.Goes.plain rfl ?_
              have h0 : ρ (.tmp 76) = .int .i64 j := hKn.1.get 3 76 rfl rfl
              refine Draw.Runs.value (w' := W) (v := .int .i64 p2) ?_ ⟨hJ, Below.refl _ _, rfl⟩
              simp only [execOp]; go_simp
            · refine Draw.Goes.plain rfl ?_
              have h0 : ρ (.tmp 77) = .int .i64 p2 := hKn.1.get 4 77 rfl rfl
              refine Draw.Runs.value (w' := W) (v := .int .i64 p) ?_ ⟨hJ, Below.refl _ _, rfl⟩
              simp only [execOp]; go_simp
            · refine Draw.Goes.plain rfl ?_
              have h0 : ρ (.tmp 75) = .string X := hKn.1.get 2 75 rfl rfl
              have h1 : ρ (.tmp 78) = .int .i64 p := hKn.1.get 5 78 rfl rfl
              refine Draw.Runs.enter (f := 71) (args := #[.string X, .int .i64 p]) ?_ ((HC1.out W).mono fun e W' ⟨he, hb⟩ => ⟨_, he, hb ▸ hJ, hb ▸ Below.refl _ _, rfl⟩)
              simp only [execOp]; go_simp
            · refine Draw.Goes.plain rfl ?_
              exact Draw.Runs.value (w' := W) (v := ρ (.tmp 4)) rfl ⟨hJ, Below.refl _ _, hKn.1.2 4 rfl⟩
            · refine Draw.Goes.plain rfl ?_
              exact Draw.Runs.value (w' := W) (v := ρ (.tmp 10)) rfl ⟨hJ, Below.refl _ _, hKn.1.2 10 rfl⟩
            · refine Draw.Goes.plain rfl ?_
              have h0 : ρ (.tmp 81) = .int .i64 j := hKn.1.get 8 81 rfl rfl
              refine Draw.Runs.value (w' := W) (v := .int .i64 p2) ?_ ⟨hJ, Below.refl _ _, rfl⟩
              simp only [execOp]; go_simp
            · refine Draw.Goes.plain rfl ?_
              have h0 : ρ (.tmp 82) = .int .i64 p2 := hKn.1.get 9 82 rfl rfl
              refine Draw.Runs.value (w' := W) (v := .int .i64 p') ?_ ⟨hJ, Below.refl _ _, rfl⟩
              simp only [execOp]; go_simp
            · refine Draw.Goes.plain rfl ?_
              have h0 : ρ (.tmp 80) = .string X := hKn.1.get 7 80 rfl rfl
              have h1 : ρ (.tmp 83) = .int .i64 p' := hKn.1.get 10 83 rfl rfl
              refine Draw.Runs.enter (f := 71) (args := #[.string X, .int .i64 p']) ?_ ((HC2.out W).mono fun e W' ⟨he, hb⟩ => ⟨_, he, hb ▸ hJ, hb ▸ Below.refl _ _, rfl⟩)
              simp only [execOp]; go_simp
            · refine Draw.Goes.plain rfl ?_
              have h0 : ρ (.tmp 79) = .int .u8 x.toNat := hKn.1.get 6 79 rfl rfl
              have h1 : ρ (.tmp 84) = .int .u8 y.toNat := hKn.1.get 11 84 rfl rfl
              refine Draw.Runs.value (w' := W) (v := .agg #[.int .u8 x.toNat, .int .u8 y.toNat]) ?_ ⟨hJ, Below.refl _ _, rfl⟩
              simp only [execOp]; go_simp
            · refine Draw.Goes.plain rfl ?_
              have h0 : ρ (.tmp 85) = .agg #[.int .u8 x.toNat, .int .u8 y.toNat] := hKn.1.get 12 85 rfl rfl
              refine Draw.Runs.value (w' := W.alloc (.cells #[.int .u8 x.toNat, .int .u8 y.toNat] 44)) (v := .slice (some ⟨W.heap.size, 0, none⟩) 1 1) ?_ ⟨(hJ.trans (Below.mono (bel_alloc _ _) hJ.size)), bel_alloc _ _, W.heap.size, rfl, heap_alloc_new W _⟩
              simp only [execOp]; go_simp
          · intro u W hJ hf
            have r74 : u 74 = v := hf 1 _ 74 (by decide) rfl rfl
            obtain ⟨gg86, r86, hb86⟩ : RowT 44 #[.int .u8 x.toNat, .int .u8 y.toNat] W (u 86) := hf 13 _ 86 (by decide) rfl rfl
            simp only [List.foldl_cons, List.foldl_nil, List.setIfInBounds_toArray, List.set_cons_succ, List.set_cons_zero, r74, r86]
            have hbq3 : Blk W q _ RT := (hJ.block _ hlq).trans hbq
            have hbg3 : Blk W w.heap.size (pc K.zero nl nl) RT := (hJ.block _ hlg).trans hbg
            have hown1 := own_below hown hJ
            have hbel1 := hbel.trans (hJ.mono hbel.size)
            have hszq := hbq3.lt
            have hszg := hbg3.lt
            refine Draw.wpAny_one (i := 14) (by kernel_rfl) rfl rfl ?_
            refine wp_append_lies W (.tmp 74) (.tmp 86) 24 rfl (q + 1) 44 i0 (.agg #[.int .u8 0, .int .u8 0]) 2 2 Tryd.underlying24 hi hz0 hz1 hz2 rfl (by decide) v j _ rfl hown1 ⟨gg86, 0, none⟩ 1 1 [.int .u8 x.toNat, .int .u8 y.toNat] rfl rfl (World.news_of_block hb86) (by simp [Value.oneCell']) (by decide) hlen1 hlen2 (by omega) _ rfl ?_
            intro g cap w3 hown3 hgrow hat hlt3
            have hb3 : Blk w3 q _ RT := (hgrow.block q hszq hnq).trans hbq3
            have hg3 : Blk w3 w.heap.size (pc K.zero nl nl) RT := (hgrow.block _ hszg hng).trans hbg3
            have hbel3 : Below w.heap.size w w3 := hbel1.grown hgrow hbel1.size (fun k e => by have := (hown.lt k e).1; omega)
            have hcc := hb3.cell (off := 8) _ rfl
            have hff := hb3.free (off := 8)
            refine Draw.wpAny_one (i := 15) (by kernel_rfl) rfl rfl ?_
            refine Draw.wp_value (v := .pointer (some ⟨q, 8, none⟩)) (w' := w3) (by simp only [execOp]; go_simp) ?_
            refine Draw.wpAny_one (i := 16) (by kernel_rfl) rfl rfl ?_
            refine Draw.wp_skip (w' := w3.setCell ⟨q, 8, none⟩ (.slice (some ⟨g, 0, none⟩) (j + 1) cap)) (by simp only [execOp]; go_simp) ?_
            refine Draw.wpAny_end (by kernel_rfl) ?_
            have HB3 := Lib.hid (hb3.set (off := 8) (.slice (some ⟨g, 0, none⟩) (j + 1) cap))
            have HG3 := Lib.hid (blk_far hg3 (by omega : q ≠ w.heap.size) 8 (.slice (some ⟨g, 0, none⟩) (j + 1) cap))
            have HL3 := Lib.hid (hbel3.setCell (p := ⟨q, 8, none⟩) (by show w.heap.size ≤ q; omega) (.slice (some ⟨g, 0, none⟩) (j + 1) cap))
            have HO3 := Lib.hid (own_far hown3 (by omega : q < q + 1) 8 (.slice (some ⟨g, 0, none⟩) (j + 1) cap))
            clear hb3 hg3 hbel3 hown3 hgrow hcc hff hown hbq hbg hbel c8 f8 hbq3 hbg3 hown1 hbel1 hJ hf
            go_wp2
            go_roundw
            case rel => exact ⟨j + 1, _, by omega, by go_num, HB3.out, by rw [HSN.out]; exact HO3.out, HG3.out, HL3.out⟩
            case measure => simp [intOf]; omega
        · obtain rfl : j = n := by omega
          have HIN := Lib.hid (fun w' (hk : Kp wr.heap.size w.heap.size wr w') => own_prs (own_kp hown hk (by omega)) (by omega))
          have HBQ := Lib.hid hbq
          have HBG := Lib.hid hbg
          have HBL := Lib.hid hbel
          clear hown hbq hbg hbel
          go_wp2
          go_meet
          exact ⟨⟨nl, v, by rw [HK.out]; exact HBQ.out, fun w' _ => by rw [HK.out]; exact ins_nil _, fun w' hk => by rw [HK.out]; exact HIN.out w' hk⟩, HBG.out, HBL.out⟩
    by_cases h5 : c = 5
    · subst h5
      have HK := Lib.hid (show rK m = ⟨5, (sm m 1).toNat, numAt m 2 0, numAt m 10 0, numAt m 18 0, 0, 0, [], [], numAt m 26 0, numAt m 34 0⟩ by rw [rK_eq m 5 n HC.out HNN.out]; rfl)
      have c9 : w2.cell? ⟨q, 9, none⟩ = some (.int .u64 0) := hq1.cell _ rfl
      have f9 : w2.frozen? ⟨q, 9, none⟩ = false := hq1.free
      have c10 : w2.cell? ⟨q, 10, none⟩ = some (.int .u64 0) := hq1.cell _ rfl
      have f10 : w2.frozen? ⟨q, 10, none⟩ = false := hq1.free
      have HQ := Lib.hid ((hq1.set (off := 9) (.int .u64 (numAt m 26 0 : Nat))).set (off := 10) (.int .u64 (numAt m 34 0 : Nat)))
      have HG := Lib.hid (blk_far (blk_far hg1 (by omega : q ≠ w.heap.size) 9 (.int .u64 (numAt m 26 0 : Nat))) (by omega : q ≠ w.heap.size) 10 (.int .u64 (numAt m 34 0 : Nat)))
      have HL := Lib.hid ((hB2.setCell (p := ⟨q, 9, none⟩) (by show w.heap.size ≤ q; omega) (.int .u64 (numAt m 26 0 : Nat))).setCell (p := ⟨q, 10, none⟩) (by show w.heap.size ≤ q; omega) (.int .u64 (numAt m 34 0 : Nat)))
      clear hq1 hg1 hB2 hcw
      go_wp2_with fail
      refine (HU.out 26 _ (by decide)).mono ?_
      rintro e w' ⟨rfl, rfl⟩
      go_wp2_with fail
      refine (HU.out 34 _ (by decide)).mono ?_
      rintro e w' ⟨rfl, rfl⟩
      go_wp2
      go_meet
      exact ⟨⟨nl, nl, by rw [HK.out]; exact HQ.out, fun w' _ => by rw [HK.out]; exact ins_nil _, fun w' _ => by rw [HK.out]; exact prs_nil _⟩, HG.out, HL.out⟩
    have HK := Lib.hid (show rK m = ⟨c, (sm m 1).toNat, numAt m 2 0, numAt m 10 0, numAt m 18 0, 0, 0, [], [], 0, 0⟩ by rw [rK_eq m c n HC.out HNN.out]; simp [h1, h2, h3, h4, h5])
    have t1 : ((c : Int) == 1) = false := by rw [beq_eq_false_iff_ne]; omega
    have t2 : ((c : Int) == 2) = false := by rw [beq_eq_false_iff_ne]; omega
    have t3 : ((c : Int) == 3) = false := by rw [beq_eq_false_iff_ne]; omega
    have t4 : ((c : Int) == 4) = false := by rw [beq_eq_false_iff_ne]; omega
    have t5 : ((c : Int) == 5) = false := by rw [beq_eq_false_iff_ne]; omega
    clear h1 h2 h3 h4 h5
    have HQ := Lib.hid hq1
    have HG := Lib.hid hg1
    have HL := Lib.hid hB2
    clear hq1 hg1 hB2 hcw
    go_wp2
    go_meet
    exact ⟨⟨nl, nl, by rw [HK.out]; exact HQ.out, fun w' _ => by rw [HK.out]; exact ins_nil _, fun w' _ => by rw [HK.out]; exact prs_nil _⟩, HG.out, HL.out⟩
/-- What the document's 'Take' answers. -/
theorem rtake_any (s : ByteArray) (w : World) (hs : s.size ≤ maxLen) : Calls Tryd.prog 23 #[.string s] w (TookK (pT s.data.toList) w) := by
  by_cases he : fnE s.data.toList = 0
  · exact rtake_some s w hs he
  · exact rtake_none s w hs he
end Go.Proofs.YtdgbililgkhjfaaDoor.Pk
