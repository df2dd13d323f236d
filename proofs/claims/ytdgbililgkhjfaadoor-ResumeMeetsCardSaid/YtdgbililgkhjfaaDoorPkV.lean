/- What 'Put' answers: walked. Conditions: the numbers are what their types bear, the lists lie in memory, the table. -/
import Derived.Test.YtdgbililgkhjfaaDoorPkV0
import Derived.Test.YtdgbililgkhjfaaDoorPkU
import Derived.Test.YtdgbililgkhjfaaDoorPkSOa
import Derived.Test.YtdgbililgkhjfaaDoorPkSOb
import Derived.Deep.DeepCutAuto
namespace Go.Proofs.YtdgbililgkhjfaaDoor.Pk
open Go.RowKit Go.Proofs.YtdgbililgkhjfaaDoor.Crc Go.Proofs.YtdgbililgkhjfaaDoor.Codec Go.Proofs.YtdgbililgkhjfaaDoor.CrcWalk Go.Proofs.YtdgbililgkhjfaaDoor.Frame
set_option linter.unusedVariables false
theorem sksO : Sks 56 139 140 := ⟨sk0O, sk1O, sk2O, sk3zO, sk3O, sk4zO, sk4O, sk5O⟩
/-- What fields by a writer leave. -/
theorem fields_out (p q : Nat) (k : K) (S : Nat → Prop) (L : List UInt8) (vi vp : Value) (w : World) (hL : L.length ≤ 100) (hk : k.wf) (hq : S q) (hw : Ws w p S L) (hb : Blk w q (pc k vi vp) 26)
    (hi : ∀ W, Ks (fun j => S j ∧ j ≠ q) w W → Ins W vi k.ins) (hp : ∀ W, Ks (fun j => S j ∧ j ≠ q) w W → Prs W vp k.prs) (l1 : k.ins.length ≤ 32) (l2 : k.prs.length ≤ 32) :
    Calls Tryd.prog 57 #[.pointer (some ⟨q, 0, none⟩), .iface 107 (.pointer (some ⟨p, 0, none⟩))] w fun r w' => r = .returned (.tuple #[]) ∧ Ws w' p S (L ++ k.body) ∧ Ks (fun j => S j ∧ j ≠ q) w w' := by
  obtain ⟨b, c, rfl, _⟩ := hi w (Ks.refl _ _)
  obtain ⟨b', c', rfl, _⟩ := hp w (Ks.refl _ _)
  have hall := (passO p).all (S := S) (q := q) (w := w) (ks := (k, L)) (b := b) (b' := b') (c := c) (c' := c') (C := fun W => Ks (fun j => S j ∧ j ≠ q) w W) sksO (fun st n h => by show n ≤ 33; omega) (fun _ h => h) hk (by show L.length + 200 ≤ 1000; omega) hq
    ⟨hw, hb, Ks.refl _ _⟩ l1 hi l2 hp (.inl fun _ _ => rfl)
  refine Calls.mono hall fun r w' ⟨h1, vi, vp, h2, _, _⟩ => ⟨h1, ?_, h2.2.2⟩
  rw [← psO_fields]; exact h2.1
set_option maxRecDepth 100000 in
set_option maxHeartbeats 4000000 in
theorem put_none (k : K) (vi vp : Value) (w : World) (hk : k.wf) (hi : Ins w vi k.ins) (hp : Prs w vp k.prs) (hm : ¬ k.may) :
    Calls Tryd.prog 18 #[.agg (pc k vi vp)] w fun e w' => e = .returned (.tuple #[.string (bs []), .int .i64 4]) ∧ Below w.heap.size w w' := by
  have hM := fun W (h : Below w.heap.size w W) => may_any k vi vp W hk (hi.below h) (hp.below h)
  rw [show MayB k = false from decide_eq_false hm] at hM
  have HM := Lib.hid hM
  clear hM hm hk hi hp
  go_enter Tryd.func18, Tryd.ntmps18
  go_wp2_with (first | (refine load_pk (.tmp 1) w.heap.size k vi vp (heap_alloc_new w _) rfl rfl rfl ?_))
  refine (HM.out _ ((Below.refl _ w).alloc (Nat.le_refl _) _)).mono ?_
  rintro e w1 ⟨rfl, hb⟩
  have hB : Below w.heap.size w w1 := ((Below.refl _ w).alloc (Nat.le_refl _) _).trans (hb.mono (by simp))
  clear hb
  go_wp2
  go_ret2
  exact ⟨rfl, hB⟩
theorem two_new (W : World) (A B C : Obj) : (((W.alloc A).alloc B).alloc C).drew.heap[W.heap.size + 1]? = some B ∧ (((W.alloc A).alloc B).alloc C).drew.heap[W.heap.size + 1 + 1]? = some C ∧ Below (W.heap.size + 1) (W.alloc A) (((W.alloc A).alloc B).alloc C).drew := by
  have h1 : (W.alloc A).heap.size = W.heap.size + 1 := World.size_alloc W A
  have h2 : ((W.alloc A).alloc B).heap.size = W.heap.size + 1 + 1 := by rw [World.size_alloc, h1]
  refine ⟨?_, ?_, ?_⟩
  · have e := heap_alloc_new (W.alloc A) B
    rw [h1] at e
    exact (Below.heap_alloc _ C _ (by rw [h2]; omega)).trans e
  · have e := heap_alloc_new ((W.alloc A).alloc B) C
    rw [h2] at e
    exact e
  · exact (((Below.refl _ _).alloc (by rw [h1]; omega) B).alloc (by rw [h2]; omega) C).drew
theorem new_at (W : World) (o : Obj) {g : Nat} (h : g = W.heap.size) : (W.alloc o).heap[g]? = some o := by subst h; exact heap_alloc_new W o
set_option maxRecDepth 100000 in
set_option maxHeartbeats 8000000 in
theorem put_some (k : K) (vi vp : Value) (w : World) (hk : k.wf) (hi : Ins w vi k.ins) (hp : Prs w vp k.prs) (hT : Tab w) (hm : k.may) :
    Calls Tryd.prog 18 #[.agg (pc k vi vp)] w fun e w' => e = .returned (.tuple #[.string (bs (pPut k).1), .int .i64 (pPut k).2]) ∧ Below w.heap.size w w' := by
  have hM := fun W (h : Below w.heap.size w W) => may_any k vi vp W hk (hi.below h) (hp.below h)
  rw [show MayB k = true from decide_eq_true hm] at hM
  obtain ⟨l1, l2⟩ := hm.lens
  have hsl := sl_of hi hp
  have HI := hi
  have HP := hp
  obtain ⟨bi, ci, rfl, _⟩ := HI
  obtain ⟨bp, cp, rfl, _⟩ := HP
  obtain ⟨kn, hkn⟩ : ∃ kn : Nat, k.kind = kn := ⟨k.kind.toNat, by have := hm.1; omega⟩
  have hk5 : kn ≤ 5 := by have := hm.2.1; omega
  have hwrap : IntKind.u8.wrap (kn : Int) = (kn : Int) := IntWalk.u8_in _ (by omega)
  have HM := Lib.hid hM
  have HPA := Lib.hid (show leB kn 1 ++ k.body = k.pay from by have := pay_eq hm; rwa [hkn] at this)
  clear hM
  go_enter Tryd.func18, Tryd.ntmps18
  go_wp2_with (first | (refine load_pk (.tmp 1) w.heap.size k _ _ (heap_alloc_new w _) rfl rfl rfl ?_))
  refine (HM.out _ ((Below.refl _ w).alloc (Nat.le_refl _) _)).mono ?_
  rintro e w1 ⟨rfl, hb⟩
  have hB1 : Below w.heap.size w w1 := ((Below.refl _ w).alloc (Nat.le_refl _) _).trans (hb.mono (by simp))
  have hp1 : Blk w1 w.heap.size (pc k (.slice bi k.ins.length ci) (.slice bp k.prs.length cp)) 26 := (hb.block _ (by simp)).trans (heap_alloc_new w _)
  clear hb
  have hp2 : Blk (w1.alloc (.cells #[.slice none 0 0] 111)) w.heap.size (pc k (.slice bi k.ins.length ci) (.slice bp k.prs.length cp)) 26 := hp1.alloc _
  have ck0 : w1.cell? ⟨w.heap.size, 0, none⟩ = some (.int .i64 k.kind) := hp1.cell _ rfl
  have ck1 : w1.cell? ⟨w.heap.size, 1, none⟩ = some (.int .u8 k.player) := hp1.cell _ rfl
  have ck2 : w1.cell? ⟨w.heap.size, 2, none⟩ = some (.int .u64 k.epoch) := hp1.cell _ rfl
  have ck3 : w1.cell? ⟨w.heap.size, 3, none⟩ = some (.int .u64 k.dest) := hp1.cell _ rfl
  have ck4 : w1.cell? ⟨w.heap.size, 4, none⟩ = some (.int .u64 k.count) := hp1.cell _ rfl
  have ck5 : w1.cell? ⟨w.heap.size, 5, none⟩ = some (.int .u64 k.own) := hp1.cell _ rfl
  have ck6 : w1.cell? ⟨w.heap.size, 6, none⟩ = some (.int .u64 k.first) := hp1.cell _ rfl
  have ck7 : w1.cell? ⟨w.heap.size, 7, none⟩ = some (.slice bi k.ins.length ci) := hp1.cell _ rfl
  have ck8 : w1.cell? ⟨w.heap.size, 8, none⟩ = some (.slice bp k.prs.length cp) := hp1.cell _ rfl
  have ck9 : w1.cell? ⟨w.heap.size, 9, none⟩ = some (.int .u64 k.frame) := hp1.cell _ rfl
  have ck10 : w1.cell? ⟨w.heap.size, 10, none⟩ = some (.int .u64 k.sum) := hp1.cell _ rfl
  have hlt : w.heap.size < w1.heap.size := hp1.lt
  have hlt1 : w.heap.size < w1.heap.size + 1 := by omega
  have hlt2 : w.heap.size < w1.heap.size + 1 + 1 := by omega
  have hlt3 : w.heap.size < w1.heap.size + 2 := by omega
  go_upto_region 4 with fail
  go_cut [5, 6] (fun a b wx => ∃ g q, a = .pointer (some ⟨g, 0, none⟩) ∧ b = .pointer (some ⟨q, 0, none⟩) ∧ w1.heap.size < g ∧ w1.heap.size < q ∧ g ≠ q ∧ Blk wx g #[.int .u8 kn] 5 ∧ Blk wx q (pc k (.slice bi k.ins.length ci) (.slice bp k.prs.length cp)) 26 ∧ Below (w1.heap.size + 1) (w1.alloc (.cells #[.slice none 0 0] 111)) wx)
  case first =>
    go_region
    all_goals (go_wp2_with fail; go_meet)
    all_goals have hpcv : pc k (.slice bi k.ins.length ci) (.slice bp k.prs.length cp) = #[.int .i64 kn, .int .u8 k.player, .int .u64 k.epoch, .int .u64 k.dest, .int .u64 k.count, .int .u64 k.own, .int .u64 k.first, .slice bi k.ins.length ci, .slice bp k.prs.length cp, .int .u64 k.frame, .int .u64 k.sum] := by unfold pc; rw [hkn]
    · exact ⟨w1.heap.size + 1, w1.heap.size + 1 + 1, rfl, rfl, by omega, by omega, by omega, (two_new _ _ _ _).1, (by rw [hpcv]; exact (two_new _ _ _ _).2.1), (two_new _ _ _ _).2.2⟩
    · exact ⟨w1.heap.size + 1 + 1, w1.heap.size + 1, rfl, rfl, by omega, by omega, by omega, (two_new _ _ _ _).2.1, (by rw [hpcv]; exact (two_new _ _ _ _).1), (two_new _ _ _ _).2.2⟩
  case rest =>
  obtain ⟨g, q, rfl, rfl, hg1, hq1, hgq, hbg, hbq, hB3⟩ := hcut
  have hz3 : w1.heap.size + 1 ≤ wc.heap.size := by have := hB3.size; simp at this; exact this
  have ho3 : wc.heap[w1.heap.size]? = some (.cells #[.slice none 0 0] 111) := (hB3.block _ (by omega)).trans (heap_alloc_new w1 _)
  have hp3 : Blk wc w.heap.size (pc k (.slice bi k.ins.length ci) (.slice bp k.prs.length cp)) 26 := (hB3.block _ (by omega)).trans hp2
  have hB4 : Below w.heap.size w wc := (hB1.alloc (by omega) (.cells #[.slice none 0 0] 111)).trans (hB3.mono (by omega))
  have hw4 : Ws wc w1.heap.size (fun j => j < wc.heap.size ∧ j ≠ w1.heap.size) [] := Ws.nil ho3 fun j hj => hj
  have hgl := hbg.lt
  have hql := hbq.lt
  have cg : wc.cell? ⟨g, 0, none⟩ = some (.int .u8 kn) := hbg.cell _ rfl
  have HO := Lib.hid (out_byte w1.heap.size kn ⟨g, 0, none⟩ _ [] wc (by omega) (by simp) hw4 cg)
  clear ck0 ck1 ck2 ck3 ck4 ck5 ck6 ck7 ck8 ck9 ck10 hp2 hp1 hB1 hB3 ho3 hw4 hbg cg hlt1 hlt2 hlt3
  go_wp2_with fail
  refine HO.out.mono ?_
  rintro e w5 ⟨rfl, hw5, hk5'⟩
  have hbq5 : Blk w5 q (pc k (.slice bi k.ins.length ci) (.slice bp k.prs.length cp)) 26 := (hk5'.block q ⟨hql, by omega⟩).trans hbq
  have hp5 : Blk w5 w.heap.size (pc k (.slice bi k.ins.length ci) (.slice bp k.prs.length cp)) 26 := (hk5'.block _ ⟨by omega, by omega⟩).trans hp3
  have hB5 : Below w.heap.size w w5 := hB4.trans (hk5'.below fun j hj => ⟨by omega, by omega⟩)
  have hin5 : ∀ W, Ks (fun j => (j < wc.heap.size ∧ j ≠ w1.heap.size) ∧ j ≠ q) w5 W → Below w.heap.size w W := fun W h => hB5.trans (h.below fun j hj => ⟨⟨by omega, by omega⟩, by omega⟩)
  have HF := Lib.hid (fields_out w1.heap.size q k _ _ _ _ w5 (by rw [List.nil_append, leB_length]; omega) hk ⟨hql, by omega⟩ hw5 hbq5 (fun W h => hi.below (hin5 W h)) (fun W h => hp.below (hin5 W h)) l1 l2)
  have HIN5 := Lib.hid hin5
  clear HO hw5 hk5' hbq5 hbq hB4 hp3 hin5
  go_wp2_with fail
  refine HF.out.mono ?_
  rintro e w6 ⟨rfl, hw6, hk6⟩
  rw [List.nil_append, HPA.out] at hw6
  have hB6 := HIN5.out _ hk6
  have hp6 : Blk w6 w.heap.size (pc k (.slice bi k.ins.length ci) (.slice bp k.prs.length cp)) 26 := (hk6.block _ ⟨⟨by omega, by omega⟩, by omega⟩).trans hp5
  have HBY := Lib.hid (sbytes_any w1.heap.size _ _ w6 hw6)
  clear HF HIN5 hk6 hp5 hB5 hw6
  go_wp2_with fail
  refine HBY.out.mono ?_
  rintro e w7 ⟨rfl, rfl⟩
  clear HBY
  have hpl := pay_length k l1 l2
  have hPU := Frame.put_any (bs k.pay) w6 (by rw [bs_size]; unfold maxLen; omega) (tab_below hT hB6)
  rw [bs_toList, show fputE k.pay = 0 from by unfold fputE; rw [if_pos hpl]] at hPU
  have hfl := fput_length hpl
  have HPU := Lib.hid hPU
  have HTK := Lib.hid (pT_pay hk hm)
  have HPP := Lib.hid (show pPut k = if k.only = k then (fput k.pay, 0) else ([], 4) from by
    unfold pPut
    by_cases h : k.only = k
    · rw [if_pos ⟨hm, h⟩, if_pos h]
    · rw [if_neg (fun x => h x.2), if_neg h])
  have HMAY := Lib.hid hm
  clear hPU hpl hgl hql
  go_wp2_with fail
  refine HPU.out.mono ?_
  rintro e w7 ⟨rfl, hb7⟩
  have hp7 : Blk w7 w.heap.size (pc k (.slice bi k.ins.length ci) (.slice bp k.prs.length cp)) 26 := (hb7.block _ hp6.lt).trans hp6
  have hB7 : Below w.heap.size w w7 := hB6.trans (hb7.mono hB6.size)
  have hta := take_any (bs (fput k.pay)) w7 (by rw [bs_size, hfl]; have := pay_length k l1 l2; unfold maxLen; omega) (tab_below hT hB7)
  rw [bs_toList, HTK.out] at hta
  have hw7 : w.heap.size < w7.heap.size := hp7.lt
  generalize hTX : bs (fput k.pay) = TX at *
  have HTX := Lib.hid hTX
  clear HPU hb7 hB6 hp6 hTX HTK hfl hz3
  by_cases hom : k.only.may
  case neg =>
    rw [if_neg hom] at hta
    have HTA := Lib.hid hta
    have hne : ¬ k.only = k := fun e => hom (by rw [e]; exact hm)
    have HPQ := Lib.hid (HPP.out.trans (if_neg hne))
    clear hta hom hne HPP
    go_wp2_with fail
    refine HTA.out.mono ?_
    rintro e w8 ⟨⟨vi, vp, rfl, hi8, hp8⟩, hb8⟩
    have hB8 : Below w.heap.size w w8 := hB7.trans (hb8.mono hB7.size)
    have hs8 := sl_of hi8 hp8
    have hn8 : Blk (w8.alloc (.cells (pc K.zero (.slice none 0 0) (.slice none 0 0)) 26)) w8.heap.size (pc K.zero (.slice none 0 0) (.slice none 0 0)) 26 := heap_alloc_new w8 _
    have hB9 := below_setRow (hB8.alloc hB8.size (.cells (pc K.zero (.slice none 0 0) (.slice none 0 0)) 26)) hB8.size (pc K.zero vi vp)
    clear HTA hb8 hB7 hB8 hp7 hi8 hp8
    go_wp2_with (first | (refine store_pk (.tmp 9) (.tmp 39) w8.heap.size K.zero K.zero _ _ vi vp hs8 hn8 rfl rfl rfl rfl rfl ?_))
    go_ret2
    exact ⟨by rw [HPQ.out]; rfl, hB9⟩
  case pos =>
    rw [if_pos hom] at hta
    have HTA := Lib.hid hta
    clear hta hom
    go_wp2_with fail
    refine HTA.out.mono ?_
    rintro e w8 ⟨⟨vi, vp, rfl, hi8, hp8⟩, hb8⟩
    have hB8 : Below w.heap.size w w8 := hB7.trans (hb8.mono hB7.size)
    have hp8' : Blk w8 w.heap.size (pc k (.slice bi k.ins.length ci) (.slice bp k.prs.length cp)) 26 := (hb8.block _ hp7.lt).trans hp7
    have hs8 := sl_of hi8 hp8
    have hn8 : Blk (w8.alloc (.cells (pc K.zero (.slice none 0 0) (.slice none 0 0)) 26)) w8.heap.size (pc K.zero (.slice none 0 0) (.slice none 0 0)) 26 := heap_alloc_new w8 _
    have hx9 : Blk ((w8.alloc (.cells (pc K.zero (.slice none 0 0) (.slice none 0 0)) 26)).setRow w8.heap.size (pc k.only vi vp)) w8.heap.size (pc k.only vi vp) 26 := setRow_heap _ _ _ _ _ _ hn8
    have hr9 : Blk ((w8.alloc (.cells (pc K.zero (.slice none 0 0) (.slice none 0 0)) 26)).setRow w8.heap.size (pc k.only vi vp)) w.heap.size (pc k (.slice bi k.ins.length ci) (.slice bp k.prs.length cp)) 26 := (setRow_other _ _ _ _ (by have := hp8'.lt; omega)).trans (hp8'.alloc _)
    have hB9 := below_setRow (hB8.alloc hB8.size (.cells (pc K.zero (.slice none 0 0) (.slice none 0 0)) 26)) hB8.size (pc k.only vi vp)
    have hb9 : Below w8.heap.size w8 ((w8.alloc (.cells (pc K.zero (.slice none 0 0) (.slice none 0 0)) 26)).setRow w8.heap.size (pc k.only vi vp)) := below_setRow ((Below.refl _ w8).alloc (Nat.le_refl _) _) (Nat.le_refl _) _
    have HSA := Lib.hid (same_any k.only k vi vp _ _ _ (hi8.below hb9) (hp8.below hb9) (hi.below hB9) (hp.below hB9))
    have hB9s := hB9.size
    clear HTA hb8 hB7 hB8 hp7 hi8 hp8 hp8' hb9 hi hp
    by_cases heq : k.only = k
    · have HPQ := Lib.hid (HPP.out.trans (if_pos heq))
      rw [decide_eq_true heq] at HSA
      clear heq HPP
      go_wp2_with (first | (refine store_pk (.tmp 9) (.tmp 39) w8.heap.size K.zero k.only _ _ vi vp hs8 hn8 rfl rfl rfl rfl rfl ?_) | (refine load_pkg (.tmp 9) w8.heap.size k.only vi vp hx9 rfl rfl rfl ?_) | (refine load_pkg (.tmp 1) w.heap.size k _ _ hr9 rfl rfl rfl ?_))
      refine HSA.out.mono ?_
      rintro e w10 ⟨rfl, hb10⟩
      have hB10 := hB9.trans (hb10.mono hB9s)
      clear hB9 hb10
      go_wp2
      go_ret2
      exact ⟨by rw [HPQ.out, ← HTX.out]; rfl, hB10⟩
    · have HPQ := Lib.hid (HPP.out.trans (if_neg heq))
      rw [decide_eq_false heq] at HSA
      clear heq HPP
      go_wp2_with (first | (refine store_pk (.tmp 9) (.tmp 39) w8.heap.size K.zero k.only _ _ vi vp hs8 hn8 rfl rfl rfl rfl rfl ?_) | (refine load_pkg (.tmp 9) w8.heap.size k.only vi vp hx9 rfl rfl rfl ?_) | (refine load_pkg (.tmp 1) w.heap.size k _ _ hr9 rfl rfl rfl ?_))
      refine HSA.out.mono ?_
      rintro e w10 ⟨rfl, hb10⟩
      have hB10 := hB9.trans (hb10.mono hB9s)
      clear hB9 hb10
      go_wp2
      go_ret2
      exact ⟨by rw [HPQ.out]; rfl, hB10⟩
/-- What 'Put' answers. -/
theorem put_any (k : K) (vi vp : Value) (w : World) (hk : k.wf) (hi : Ins w vi k.ins) (hp : Prs w vp k.prs) (hT : Tab w) :
    Calls Tryd.prog 18 #[.agg (pc k vi vp)] w fun e w' => e = .returned (.tuple #[.string (bs (pPut k).1), .int .i64 (pPut k).2]) ∧ Below w.heap.size w w' := by
  by_cases hm : k.may
  · exact put_some k vi vp w hk hi hp hT hm
  · rw [show pPut k = ([], 4) from if_neg fun h => hm h.1]
    exact put_none k vi vp w hk hi hp hm
end Go.Proofs.YtdgbililgkhjfaaDoor.Pk
