/- The skeletons of the walk of 'fields', by a writer: walked. No conditions. The skeletons of the walk of 'fields', by a writer: walked. No conditions. The skeletons of the walk of 'fields', by a writer: walked. No conditions. -/
import Derived.Test.YtdgbililgkhjfaaDoorPkG
import Derived.Deep.DeepCutAuto
namespace Go.Proofs.YtdgbililgkhjfaaDoor.Pk
open Go.RowKit Go.Proofs.YtdgbililgkhjfaaDoor.Crc Go.Proofs.YtdgbililgkhjfaaDoor.Codec Go.Proofs.YtdgbililgkhjfaaDoor.CrcWalk
set_option linter.unusedVariables false
set_option maxRecDepth 100000 in
set_option maxHeartbeats 8000000 in
theorem sk0O : Sk0 56 139 140 := by
  intro q T v kind R0 R1 R2 w hm hh hkd hr0
  have n1 := hm.nb
  have m1 := hm.mb
  have n2 := hm.nl
  have m2 := hm.ml
  have n3 := hm.nm
  have m3 := hm.mm
  have HH := Lib.hid hh
  have HR0 := Lib.hid hr0
  clear hm hh hr0
  unfold Fields
  go_enter Tryd.func57, Tryd.ntmps57
  go_upto_region 0 with fail
  go_cut [] (fun wx => R1 wx)
  case first =>
    go_region_with (refine (HH.out.h1 _ (HH.out.d0 _ HR0.out)).mono ?_; rintro r0 w1 ⟨rfl, hs1⟩)
    all_goals (go_wp2_with fail; go_meet; exact hs1)
  case rest =>
  have HS1 := Lib.hid hcut
  clear hcut HR0 n1 m1
  go_upto_region 1 with fail
  go_cut [] (fun wx => R2 wx)
  case first =>
    go_region_with (refine (HH.out.h2 _ _ HS1.out ⟨((Below.refl _ _).alloc (Nat.le_refl _) _).drew, heap_alloc_new _ _⟩).mono ?_; rintro r1 w2 ⟨rfl, hs2⟩)
    all_goals (go_wp2_with fail; go_meet; exact hs2)
  case rest =>
  have hkc := HH.out.kd _ hcut
  have HS2 := Lib.hid hcut
  clear hcut HS1
  have b1 : (kind == 1) = false := by rw [beq_eq_false_iff_ne]; omega
  have b2 : (kind == 2) = false := by rw [beq_eq_false_iff_ne]; omega
  have b3 : (kind == 3) = false := by rw [beq_eq_false_iff_ne]; omega
  have b4 : (kind == 4) = false := by rw [beq_eq_false_iff_ne]; omega
  have b5 : (kind == 5) = false := by rw [beq_eq_false_iff_ne]; omega
  clear hkd
  go_wp2
  go_end0
  exact ⟨rfl, HS2.out⟩
set_option maxRecDepth 100000 in
set_option maxHeartbeats 8000000 in
theorem sk1O : Sk1 1 [5] 56 139 140 := by
  intro q T v R0 R1 R2 R3 w hm hh h3 hr0
  have H3 := Lib.hid h3
  clear h3
  have n1 := hm.nb
  have m1 := hm.mb
  have n2 := hm.nl
  have m2 := hm.ml
  have n3 := hm.nm
  have m3 := hm.mm
  have HH := Lib.hid hh
  have HR0 := Lib.hid hr0
  clear hm hh hr0
  unfold Fields
  go_enter Tryd.func57, Tryd.ntmps57
  go_upto_region 0 with fail
  go_cut [] (fun wx => R1 wx)
  case first =>
    go_region_with (refine (HH.out.h1 _ (HH.out.d0 _ HR0.out)).mono ?_; rintro r0 w1 ⟨rfl, hs1⟩)
    all_goals (go_wp2_with fail; go_meet; exact hs1)
  case rest =>
  have HS1 := Lib.hid hcut
  clear hcut HR0 n1 m1
  go_upto_region 1 with fail
  go_cut [] (fun wx => R2 wx)
  case first =>
    go_region_with (refine (HH.out.h2 _ _ HS1.out ⟨((Below.refl _ _).alloc (Nat.le_refl _) _).drew, heap_alloc_new _ _⟩).mono ?_; rintro r1 w2 ⟨rfl, hs2⟩)
    all_goals (go_wp2_with fail; go_meet; exact hs2)
  case rest =>
  have hkc := HH.out.kd _ hcut
  have HS2 := Lib.hid hcut
  clear hcut HS1
  go_wp2_with fail
  go_region_with (refine (H3.out _ _ HS2.out ⟨((Below.refl _ _).alloc (Nat.le_refl _) _).drew, heap_alloc_new _ _⟩).mono ?_; rintro r1 w3 ⟨rfl, hs3⟩)
  all_goals
    have HS3 := Lib.hid hs3
    clear hs3 HS2 H3
    go_wp2
    go_end0
    exact ⟨rfl, HS3.out⟩
end Go.Proofs.YtdgbililgkhjfaaDoor.Pk
namespace Go.Proofs.YtdgbililgkhjfaaDoor.Pk
open Go.RowKit Go.Proofs.YtdgbililgkhjfaaDoor.Crc Go.Proofs.YtdgbililgkhjfaaDoor.Codec Go.Proofs.YtdgbililgkhjfaaDoor.CrcWalk
set_option linter.unusedVariables false
set_option maxRecDepth 100000 in
set_option maxHeartbeats 8000000 in
theorem sk2O : Sk1 2 [5] 56 139 140 := by
  intro q T v R0 R1 R2 R3 w hm hh h3 hr0
  have H3 := Lib.hid h3
  clear h3
  have n1 := hm.nb
  have m1 := hm.mb
  have n2 := hm.nl
  have m2 := hm.ml
  have n3 := hm.nm
  have m3 := hm.mm
  have HH := Lib.hid hh
  have HR0 := Lib.hid hr0
  clear hm hh hr0
  unfold Fields
  go_enter Tryd.func57, Tryd.ntmps57
  go_upto_region 0 with fail
  go_cut [] (fun wx => R1 wx)
  case first =>
    go_region_with (refine (HH.out.h1 _ (HH.out.d0 _ HR0.out)).mono ?_; rintro r0 w1 ⟨rfl, hs1⟩)
    all_goals (go_wp2_with fail; go_meet; exact hs1)
  case rest =>
  have HS1 := Lib.hid hcut
  clear hcut HR0 n1 m1
  go_upto_region 1 with fail
  go_cut [] (fun wx => R2 wx)
  case first =>
    go_region_with (refine (HH.out.h2 _ _ HS1.out ⟨((Below.refl _ _).alloc (Nat.le_refl _) _).drew, heap_alloc_new _ _⟩).mono ?_; rintro r1 w2 ⟨rfl, hs2⟩)
    all_goals (go_wp2_with fail; go_meet; exact hs2)
  case rest =>
  have hkc := HH.out.kd _ hcut
  have HS2 := Lib.hid hcut
  clear hcut HS1
  go_wp2_with fail
  go_region_with (refine (H3.out _ _ HS2.out ⟨((Below.refl _ _).alloc (Nat.le_refl _) _).drew, heap_alloc_new _ _⟩).mono ?_; rintro r1 w3 ⟨rfl, hs3⟩)
  all_goals
    have HS3 := Lib.hid hs3
    clear hs3 HS2 H3
    go_wp2
    go_end0
    exact ⟨rfl, HS3.out⟩
set_option maxRecDepth 100000 in
set_option maxHeartbeats 8000000 in
theorem sk5O : Sk1 5 [9, 10] 56 139 140 := by
  intro q T v R0 R1 R2 R3 w hm hh h3 hr0
  have H3 := Lib.hid h3
  clear h3
  have n1 := hm.nb
  have m1 := hm.mb
  have n2 := hm.nl
  have m2 := hm.ml
  have n3 := hm.nm
  have m3 := hm.mm
  have HH := Lib.hid hh
  have HR0 := Lib.hid hr0
  clear hm hh hr0
  unfold Fields
  go_enter Tryd.func57, Tryd.ntmps57
  go_upto_region 0 with fail
  go_cut [] (fun wx => R1 wx)
  case first =>
    go_region_with (refine (HH.out.h1 _ (HH.out.d0 _ HR0.out)).mono ?_; rintro r0 w1 ⟨rfl, hs1⟩)
    all_goals (go_wp2_with fail; go_meet; exact hs1)
  case rest =>
  have HS1 := Lib.hid hcut
  clear hcut HR0 n1 m1
  go_upto_region 1 with fail
  go_cut [] (fun wx => R2 wx)
  case first =>
    go_region_with (refine (HH.out.h2 _ _ HS1.out ⟨((Below.refl _ _).alloc (Nat.le_refl _) _).drew, heap_alloc_new _ _⟩).mono ?_; rintro r1 w2 ⟨rfl, hs2⟩)
    all_goals (go_wp2_with fail; go_meet; exact hs2)
  case rest =>
  have hkc := HH.out.kd _ hcut
  have HS2 := Lib.hid hcut
  clear hcut HS1
  go_wp2_with fail
  go_region_with (refine (H3.out _ _ HS2.out ⟨((Below.refl _ _).alloc (Nat.le_refl _) _).drew, heap_alloc_new _ _⟩).mono ?_; rintro r1 w3 ⟨rfl, hs3⟩)
  all_goals
    have HS3 := Lib.hid hs3
    clear hs3 HS2 H3
    go_wp2
    go_end0
    exact ⟨rfl, HS3.out⟩
end Go.Proofs.YtdgbililgkhjfaaDoor.Pk
namespace Go.Proofs.YtdgbililgkhjfaaDoor.Pk
open Go.RowKit Go.Proofs.YtdgbililgkhjfaaDoor.Crc Go.Proofs.YtdgbililgkhjfaaDoor.Codec Go.Proofs.YtdgbililgkhjfaaDoor.CrcWalk
set_option linter.unusedVariables false
set_option maxRecDepth 100000 in
set_option maxHeartbeats 8000000 in
theorem sk3zO : SkZ 3 7 93 56 139 140 := by
  intro q T v b L c R0 R1 R2 R3 R4 R5 w hm hh hd hg he hr0
  have HE := Lib.hid he
  clear he
  have n1 := hm.nb
  have m1 := hm.mb
  have n2 := hm.nl
  have m2 := hm.ml
  have n3 := hm.nm
  have m3 := hm.mm
  have l4 := hd.l4
  have n4 := hd.n4
  have HD := Lib.hid hd
  have HG := Lib.hid hg
  clear hd hg
  have HH := Lib.hid hh
  have HR0 := Lib.hid hr0
  clear hm hh hr0
  unfold Fields
  go_enter Tryd.func57, Tryd.ntmps57
  go_upto_region 0 with fail
  go_cut [] (fun wx => R1 wx)
  case first =>
    go_region_with (refine (HH.out.h1 _ (HH.out.d0 _ HR0.out)).mono ?_; rintro r0 w1 ⟨rfl, hs1⟩)
    all_goals (go_wp2_with fail; go_meet; exact hs1)
  case rest =>
  have HS1 := Lib.hid hcut
  clear hcut HR0 n1 m1
  go_upto_region 1 with fail
  go_cut [] (fun wx => R2 wx)
  case first =>
    go_region_with (refine (HH.out.h2 _ _ HS1.out ⟨((Below.refl _ _).alloc (Nat.le_refl _) _).drew, heap_alloc_new _ _⟩).mono ?_; rintro r1 w2 ⟨rfl, hs2⟩)
    all_goals (go_wp2_with fail; go_meet; exact hs2)
  case rest =>
  have hkc := HH.out.kd _ hcut
  have HS2 := Lib.hid hcut
  clear hcut HS1
  go_upto_region 7 with fail
  go_cut [] (fun wx => R3 wx)
  case first =>
    go_region_with (refine (HD.out.h3 _ _ HS2.out ⟨((Below.refl _ _).alloc (Nat.le_refl _) _).drew, heap_alloc_new _ _⟩).mono ?_; rintro r1 w3 ⟨rfl, hs3⟩)
    all_goals (go_wp2_with fail; go_meet; exact hs3)
  case rest =>
  have hc3 := HD.out.c3 _ (HD.out.d3 _ hcut)
  have HS3 := Lib.hid hcut
  clear hcut HS2 hkc
  go_upto_region 8 with fail
  go_cut [] (fun wx => R5 wx)
  case first =>
    go_region_with (first | (refine (HD.out.h4 _ (HD.out.d3 _ HS3.out)).mono ?_; rintro r4 w4 ⟨rfl, hs4⟩; have hc4 := HD.out.c4 _ hs4; have HS4 := Lib.hid hs4; clear hs4) | (refine (HG.out _ HS4.out).mono ?_; rintro r5 w5 ⟨rfl, hc5, hf5, hs5⟩; have HS5 := Lib.hid hs5; clear hs5))
    all_goals (go_wp2_with fail; go_meet; exact HS5.out)
  case rest =>
  have hc6 := HE.out _ hcut
  have HS6 := Lib.hid hcut
  clear hcut HS3 hc3
  go_wp2
  go_loopw [4, 79] (fun _ i wr => i = .int .i64 0 ∧ R5 wr) (fun _ _ _ => 0)
  case atStart => exact ⟨rfl, HS6.out⟩
  case round =>
    obtain ⟨rfl, hr⟩ := hrel
    have HR := Lib.hid hr
    clear hr
    go_wp2
    go_end0
    exact ⟨rfl, HR.out⟩
end Go.Proofs.YtdgbililgkhjfaaDoor.Pk
