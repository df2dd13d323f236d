/- What 'Take' answers: walked. Conditions: the size, the table. -/
import Derived.Test.YtdgbililgkhjfaaDoorPkT
namespace Go.Proofs.YtdgbililgkhjfaaDoor.Pk
open Go.RowKit Go.Proofs.YtdgbililgkhjfaaDoor.Crc Go.Proofs.YtdgbililgkhjfaaDoor.Codec Go.Proofs.YtdgbililgkhjfaaDoor.CrcWalk Go.Proofs.YtdgbililgkhjfaaDoor.Frame
set_option linter.unusedVariables false
theorem fn_ok {l : List UInt8} (h : fnE l = 0) : 6 ≤ fnU l ∧ fnU l ≤ l.length ∧ (fnP l).length ≤ 4096 := by
  unfold fnE at h
  unfold fnU fnP
  by_cases h1 : l.length < 6
  · rw [if_pos h1] at h; exact absurd h (by decide)
  · rw [if_neg h1] at h; rw [if_neg h1, if_neg h1]
    by_cases h2 : 4096 < V (l.take 2)
    · rw [if_pos h2] at h; exact absurd h (by decide)
    · rw [if_neg h2] at h; rw [if_neg h2, if_neg h2]
      by_cases h3 : l.length - 6 < V (l.take 2)
      · rw [if_pos h3] at h; exact absurd h (by decide)
      · rw [if_neg h3] at h; rw [if_neg h3, if_neg h3]
        by_cases h4 : crc 0 (l.take 2 ++ (l.drop 6).take (V (l.take 2))) = V ((l.drop 2).take 4)
        · rw [if_pos h4, if_pos h4]; refine ⟨by omega, by omega, by simp; omega⟩
        · rw [if_neg h4] at h; exact absurd h (by decide)
/-- A packet that lies in memory is returned, and why it is none. -/
def TookK (ke : K × Int) (w : World) (r : Ending) (w' : World) : Prop := (∃ vi vp, r = .returned (.tuple #[.agg (pc ke.1 vi vp), .int .i64 ke.2]) ∧ Ins w' vi ke.1.ins ∧ Prs w' vp ke.1.prs) ∧ Below w.heap.size w w'
theorem slnil : Sl (.slice none 0 0) (.slice none 0 0) := ⟨rfl, rfl⟩
theorem took_end {k : K} {e : Int} {w W : World} {g : Nat} {k0 : K} {vi0 vp0 vi vp : Value} {tmps : Array Value} (h2 : tmps.getD 2 undef = .pointer (some ⟨g, 0, none⟩)) (h3 : tmps.getD 3 undef = .int .i64 e)
    (hb : Blk W g (pc k0 vi0 vp0) 26) (hB : Below w.heap.size w W) (hg : w.heap.size ≤ g) (hi : Ins (W.setRow g (pc k vi vp)) vi k.ins) (hp : Prs (W.setRow g (pc k vi vp)) vp k.prs) :
    bodyPost Tryd.prog Tryd.f22 (TookK (k, e) w) .ret ⟨tmps, []⟩ (W.setRow g (pc k vi vp)) :=
  bodyPost_ret (v := .tuple #[.agg (pc k vi vp), .int .i64 e]) (end_take _ h2 h3 (setRow_heap _ _ _ _ _ _ hb)) rfl ⟨⟨vi, vp, rfl, hi, hp⟩, below_setRow hB hg _⟩
set_option maxRecDepth 100000 in
set_option maxHeartbeats 4000000 in
/-- There is no frame. -/
theorem take_none (s : ByteArray) (w : World) (hs : s.size ≤ maxLen) (hT : Tab w) (he : fnE s.data.toList ≠ 0) :
    Calls Tryd.prog 22 #[.string s] w (TookK (pT s.data.toList) w) := by
  have hpt : pT s.data.toList = (K.zero, fnE s.data.toList) := by unfold pT; rw [if_pos he]
  rw [hpt]
  have HN := Lib.hid (fun W (h : Below w.heap.size w W) => next_any s W hs (tab_below hT h))
  clear hpt hs
  generalize fnE s.data.toList = E at *
  generalize bs (fnP s.data.toList) = P at *
  generalize fnU s.data.toList = U at *
  have hne : (E != 0) = true := by rw [bne_iff_ne]; exact he
  go_enter Tryd.func22, Tryd.ntmps22
  go_wp2_with fail
  refine (HN.out _ ((Below.refl _ w).alloc (Nat.le_refl _) _)).mono ?_
  rintro r w1 ⟨rfl, hb1⟩
  have hB1 : Below w.heap.size w w1 := ((Below.refl _ w).alloc (Nat.le_refl _) _).trans (hb1.mono (by simp))
  have hres : Blk w1 w.heap.size (pc K.zero (.slice none 0 0) (.slice none 0 0)) 26 := (hb1.block _ (by simp)).trans (heap_alloc_new w _)
  clear hb1
  go_wp2_with (refine store_pk (.tmp 2) (.tmp 18) w.heap.size K.zero K.zero _ _ _ _ slnil hres rfl rfl rfl rfl rfl ?_)
  exact took_end rfl rfl hres hB1 (Nat.le_refl _) (ins_nil _) (prs_nil _)
set_option maxRecDepth 100000 in
set_option maxHeartbeats 8000000 in
/-- There is one. -/
theorem take_some (s : ByteArray) (w : World) (hs : s.size ≤ maxLen) (hT : Tab w) (he : fnE s.data.toList = 0) :
    Calls Tryd.prog 22 #[.string s] w (TookK (pT s.data.toList) w) := by
  have hlen : s.data.toList.length = s.size := by simp
  have hpt : pT s.data.toList = if fnU s.data.toList = s.size then pTin (fnP s.data.toList) else (K.zero, 4) := by
    unfold pT; rw [if_neg (by rw [he]; decide), hlen]
  have HN := Lib.hid (fun W (h : Below w.heap.size w W) => next_any s W hs (tab_below hT h))
  have hpl : (fnP s.data.toList).length ≤ maxLen := by
    have : (fnP s.data.toList).length ≤ 4096 := (fn_ok he).2.2
    unfold maxLen; omega
  rw [he] at HN
  have hs2 : s.size ≤ 9223372036854775807 := hs
  have hU : fnU s.data.toList ≤ 9223372036854775807 := by have := (fn_ok he).2.1; omega
  generalize fnP s.data.toList = L at *
  generalize fnU s.data.toList = U at *
  generalize pT s.data.toList = PT at *
  have HPT := Lib.hid hpt
  have HPL := Lib.hid hpl
  have hLs : (bs L).size ≤ maxLen := by rw [bs_size]; exact hpl
  have HLS := Lib.hid hLs
  clear hpt hpl hs he hlen hLs
  go_enter Tryd.func22, Tryd.ntmps22
  go_wp2_with fail
  refine (HN.out _ ((Below.refl _ w).alloc (Nat.le_refl _) _)).mono ?_
  rintro r w1 ⟨rfl, hb1⟩
  have hB1 : Below w.heap.size w w1 := ((Below.refl _ w).alloc (Nat.le_refl _) _).trans (hb1.mono (by simp))
  have hres : Blk w1 w.heap.size (pc K.zero (.slice none 0 0) (.slice none 0 0)) 26 := (hb1.block _ (by simp)).trans (heap_alloc_new w _)
  have hl1 := hres.lt
  clear hb1 HN hT
  go_wp2_with fail
  refine (new_any (bs L) _).mono ?_
  rintro r w2 ⟨rfl, hr2, hb2, hz2⟩
  have hB2 : Below w.heap.size w w2 := hB1.trans (hb2.mono (Nat.le_of_lt hl1))
  have hres2 : Blk w2 w.heap.size (pc K.zero (.slice none 0 0) (.slice none 0 0)) 26 := (hb2.block _ hl1).trans hres
  have HZ := Lib.hid hz2
  clear hb2 hz2 hB1 hres
  go_wp2_with fail
  refine (in_byte w1.heap.size (w2.heap.size + 1) 0 #[.int .u8 0] 5 (.int .u8 0) (bs L) 0 _ HLS.out (Rd.alloc (Rd.alloc hr2 _) _) (by have := heap_alloc_new (w2.alloc (.cells #[.pointer (some ⟨w1.heap.size, 0, none⟩)] 127)) (.cells #[.int .u8 0] 5); simpa [Blk] using this) rfl (by have := HZ.out; omega)).mono ?_
  rintro r w3 ⟨rfl, hr3, hb3, hk3⟩
  have hz := HZ.out
  have hr3' : Rd w3 w1.heap.size (rs0 L).1 (rs0 L).2 := hr3
  have hb3' : Blk w3 (w2.heap.size + 1) #[.int .u8 (kd0 L)] 5 := hb3
  have hi3 : Blk w3 w2.heap.size #[.pointer (some ⟨w1.heap.size, 0, none⟩)] 127 :=
    (hk3.block _ (by simp; omega) (by omega) (by omega)).trans (by have := heap_alloc2_old w2 (.cells #[.pointer (some ⟨w1.heap.size, 0, none⟩)] 127) (.cells #[.int .u8 0] 5); exact this)
  have hres3 : Blk w3 w.heap.size (pc K.zero (.slice none 0 0) (.slice none 0 0)) 26 := (hk3.block _ (by simp; omega) (by omega) (by omega)).trans ((hres2.alloc _).alloc _)
  have hB3 : Below w.heap.size w w3 := Below.trodK ((hB2.alloc (by omega) _).alloc (by simp; omega) _) hk3 (by simp; omega) (by omega) (by omega)
  have hz3 : w2.heap.size + 2 ≤ w3.heap.size := by have := hk3.size; simp at this; exact this
  have hk256 : kd0 L < 256 := rv_lt 1 _ _
  have HF := Lib.hid (fun W q (hr : Rd W w1.heap.size (rs0 L).1 (rs0 L).2) hb hne => fields_in w1.heap.size q L W HPL.out hr hb hne)
  clear hr3 hb3
  generalize kd0 L = kd at *
  generalize rs0 L = RS0 at *
  have ck : w3.cell? ⟨w2.heap.size + 1, 0, none⟩ = some (.int .u8 kd) := hb3'.cell _ rfl
  have ci : w3.cell? ⟨w2.heap.size, 0, none⟩ = some (.pointer (some ⟨w1.heap.size, 0, none⟩)) := hi3.cell _ rfl
  have l1 : w2.heap.size < w3.heap.size := by omega
  have l0 : w.heap.size < w3.heap.size := by omega
  have lp : w1.heap.size < w3.heap.size := by omega
  have HLT := Lib.hid (show w.heap.size < w1.heap.size ∧ w1.heap.size < w2.heap.size ∧ w2.heap.size < w3.heap.size from ⟨hl1, by omega, l1⟩)
  clear hk3 hB2 hres2 hr2 hz hz3 hl1 lp
  go_wp2_with fail
  have hres4 := hres3.alloc (.cells (pc (K.of kd) (.slice none 0 0) (.slice none 0 0)) 26)
  have hi4 := hi3.alloc (.cells (pc (K.of kd) (.slice none 0 0) (.slice none 0 0)) 26)
  have hr4 := Rd.alloc hr3' (.cells (pc (K.of kd) (.slice none 0 0) (.slice none 0 0)) 26)
  have hB4 := hB3.alloc (Nat.le_of_lt l0) (.cells (pc (K.of kd) (.slice none 0 0) (.slice none 0 0)) 26)
  obtain ⟨lt1, lt2, lt3⟩ := HLT.out
  refine (HF.out _ w3.heap.size hr4 (heap_alloc_new w3 _) (by omega)).mono ?_
  rintro r w4 ⟨rfl, k, s', e', vi, vp, hpar, hwf, hr5, hq5, hk5, hins⟩
  have hres5 : Blk w4 w.heap.size (pc K.zero (.slice none 0 0) (.slice none 0 0)) 26 := (hk5.block _ (by simp; omega) (by omega) (by omega)).trans hres4
  have hi5 : Blk w4 w2.heap.size #[.pointer (some ⟨w1.heap.size, 0, none⟩)] 127 := (hk5.block _ (by simp; omega) (by omega) (by omega)).trans hi4
  have hB5 : Below w.heap.size w w4 := Below.trodK hB4 hk5 (by simp; omega) (by omega) (by omega)
  have ci5 : w4.cell? ⟨w2.heap.size, 0, none⟩ = some (.pointer (some ⟨w1.heap.size, 0, none⟩)) := hi5.cell _ rfl
  have hz4 : w.heap.size ≤ w4.heap.size := hB5.size
  have hlw : w.heap.size < (w3.alloc (.cells (pc (K.of kd) (.slice none 0 0) (.slice none 0 0)) 26)).heap.size := by simp; omega
  have hnp : w.heap.size ≠ w1.heap.size := by omega
  have HINS := Lib.hid hins
  have HLW := Lib.hid hlw
  have HNP := Lib.hid hnp
  have HPAR := Lib.hid hpar
  have HWF := Lib.hid hwf
  clear hres3 hi3 hr3' hB3 hres4 hi4 hr4 hB4 hk5 ck ci hb3' l1 l0 hins hlw hnp hpar hwf HF HLT lt1 lt2 lt3 hk256 HLS HPL hi5
  by_cases c1 : U = s.size
  case neg =>
    have hb : ((U : Int) != (s.size : Int)) = true := by rw [bne_iff_ne]; omega
    have hPT : PT = (K.zero, 4) := by rw [HPT.out, if_neg c1]
    subst hPT
    clear c1
    go_wp2_with (refine store_pk (.tmp 2) (.tmp 52) w.heap.size K.zero K.zero _ _ _ _ slnil hres5 rfl rfl rfl rfl rfl ?_)
    exact took_end rfl rfl hres5 hB5 (Nat.le_refl _) (ins_nil _) (prs_nil _)
  case pos =>
  have hb : ((U : Int) != (s.size : Int)) = false := by rw [c1]; simp
  have HPT2 := Lib.hid (HPT.out.trans (if_pos c1))
  clear HPT c1
  by_cases c2 : e' = 0
  case neg =>
    have hb2 : (e' != 0) = true := by rw [bne_iff_ne]; exact c2
    have hPT : PT = (K.zero, 4) := by
      rw [HPT2.out]
      cases hp : parP L with
      | none => exact pTin_none hp
      | some k' => exact absurd ((HPAR.out k').1 hp).1.1 c2
    subst hPT
    clear c2
    go_wp2_with fail
    refine (err_any w1.heap.size _ _ _ hr5).mono ?_
    rintro r w' ⟨rfl, rfl⟩
    go_wp2_with (refine store_pk (.tmp 2) (.tmp 52) w.heap.size K.zero K.zero _ _ _ _ slnil hres5 rfl rfl rfl rfl rfl ?_)
    exact took_end rfl rfl hres5 hB5 (Nat.le_refl _) (ins_nil _) (prs_nil _)
  case pos =>
  subst c2
  by_cases c3 : s'.size = 0
  case neg =>
    have hne1 : s'.toList ≠ [] := by
      rw [ByteArray.toList_eq]
      intro h
      have : s'.data.toList.length = s'.size := by simp
      rw [h] at this
      exact c3 this.symm
    have hne : (s'.toList == ([] : List UInt8)) = false := by rw [beq_eq_false_iff_ne]; exact hne1
    have hne2 : (!s'.toList.isEmpty) = true := by cases h : s'.toList with | nil => exact absurd h hne1 | cons x y => rfl
    have hne3 : s'.toList.isEmpty = false := by cases h : s'.toList with | nil => exact absurd h hne1 | cons x y => rfl
    have hPT : PT = (K.zero, 4) := by
      rw [HPT2.out]
      cases hp : parP L with
      | none => exact pTin_none hp
      | some k' => exact absurd ((HPAR.out k').1 hp).1.2 c3
    subst hPT
    clear c3
    go_wp2_with fail
    refine (err_any w1.heap.size _ _ _ hr5).mono ?_
    rintro r w' ⟨rfl, rfl⟩
    go_wp2_with fail
    refine (rest_any w1.heap.size _ _ _ hr5).mono ?_
    rintro r w' ⟨rfl, rfl⟩
    go_wp2_with (refine store_pk (.tmp 2) (.tmp 52) w.heap.size K.zero K.zero _ _ _ _ slnil hres5 rfl rfl rfl rfl rfl ?_)
    exact took_end rfl rfl hres5 hB5 (Nat.le_refl _) (ins_nil _) (prs_nil _)
  case pos =>
  have hse : s' = ⟨#[]⟩ := by
    apply ByteArray.ext
    exact Array.eq_empty_of_size_eq_zero c3
  have hpk : parP L = some k := (HPAR.out k).2 ⟨⟨rfl, c3⟩, rfl⟩
  have hPT2 := HPT2.out.trans (pTin_some hpk)
  subst hse
  have hI4 := HINS.out w4 ⟨Nat.le_refl _, fun _ _ _ => rfl⟩
  have hmay := may_any k vi vp w4 HWF.out hI4.1 hI4.2
  have hsl := sl_of hI4.1 hI4.2
  have hmb : MayB k = decide k.may := rfl
  clear HPT2 hpk HPAR c3 hI4
  by_cases c4 : k.may
  case neg =>
    rw [if_neg c4] at hPT2
    rw [hmb, decide_eq_false c4] at hmay
    subst hPT2
    have HM := Lib.hid hmay
    clear hmay hmb c4
    go_wp2_with fail
    refine (err_any w1.heap.size _ _ _ hr5).mono ?_
    rintro r w' ⟨rfl, rfl⟩
    go_wp2_with fail
    refine (rest_any w1.heap.size _ _ _ hr5).mono ?_
    rintro r w' ⟨rfl, rfl⟩
    go_wp2_with (refine load_pkg (.tmp 9) w3.heap.size k vi vp hq5 rfl rfl rfl ?_)
    refine HM.out.mono ?_
    rintro r w5 ⟨rfl, hb5⟩
    have hres6 : Blk w5 w.heap.size (pc K.zero (.slice none 0 0) (.slice none 0 0)) 26 := (hb5.block _ hres5.lt).trans hres5
    have hB6 := hB5.trans (hb5.mono hz4)
    clear hres5 hq5 hB5 hb5 ci5 hr5
    go_wp2_with (refine store_pk (.tmp 2) (.tmp 52) w.heap.size K.zero K.zero _ _ _ _ slnil hres6 rfl rfl rfl rfl rfl ?_)
    exact took_end rfl rfl hres6 hB6 (Nat.le_refl _) (ins_nil _) (prs_nil _)
  case pos =>
    rw [if_pos c4] at hPT2
    rw [hmb, decide_eq_true c4] at hmay
    subst hPT2
    have HM := Lib.hid hmay
    clear hmay hmb c4
    go_wp2_with fail
    refine (err_any w1.heap.size _ _ _ hr5).mono ?_
    rintro r w' ⟨rfl, rfl⟩
    go_wp2_with fail
    refine (rest_any w1.heap.size _ _ _ hr5).mono ?_
    rintro r w' ⟨rfl, rfl⟩
    go_wp2_with (refine load_pkg (.tmp 9) w3.heap.size k vi vp hq5 rfl rfl rfl ?_)
    refine HM.out.mono ?_
    rintro r w5 ⟨rfl, hb5⟩
    have hres6 : Blk w5 w.heap.size (pc K.zero (.slice none 0 0) (.slice none 0 0)) 26 := (hb5.block _ hres5.lt).trans hres5
    have hq6 : Blk w5 w3.heap.size (pc k vi vp) 26 := (hb5.block _ hq5.lt).trans hq5
    have hB6 := hB5.trans (hb5.mono hz4)
    have hfin := HINS.out (w5.setRow w.heap.size (pc k vi vp)) ⟨by have := hb5.size; simp [World.setRow]; omega, fun j hj hn => by
      have h1 := HLW.out
      have h2 := HNP.out
      rw [setRow_other w5 w.heap.size j _ (by omega)]
      exact hb5.block j hj⟩
    have HFIN := Lib.hid hfin
    clear hres5 hq5 hB5 hb5 ci5 hr5 hfin
    go_wp2_with (first | (refine store_pk (.tmp 2) (.tmp 53) w.heap.size K.zero k _ _ vi vp hsl hres6 rfl rfl rfl rfl rfl ?_) | (refine load_pk (.tmp 9) w3.heap.size k vi vp hq6 rfl rfl rfl ?_))
    exact took_end rfl rfl hres6 hB6 (Nat.le_refl _) HFIN.out.1 HFIN.out.2
/-- What 'Take' answers. -/
theorem take_any (s : ByteArray) (w : World) (hs : s.size ≤ maxLen) (hT : Tab w) : Calls Tryd.prog 22 #[.string s] w (TookK (pT s.data.toList) w) := by
  by_cases he : fnE s.data.toList = 0
  · exact take_some s w hs hT he
  · exact take_none s w hs hT he
end Go.Proofs.YtdgbililgkhjfaaDoor.Pk
