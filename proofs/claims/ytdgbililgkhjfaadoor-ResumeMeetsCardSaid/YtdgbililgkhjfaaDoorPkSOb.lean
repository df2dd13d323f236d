/- The skeletons of the walk of 'fields', by a writer: walked. No conditions. The skeletons of the walk of 'fields', by a writer: walked. No conditions. The skeletons of the walk of 'fields', by a writer: walked. No conditions. -/
import Derived.Test.YtdgbililgkhjfaaDoorPkG
import Derived.Deep.DeepCutAuto
namespace Go.Proofs.YtdgbililgkhjfaaDoor.Pk
open Go.RowKit Go.Proofs.YtdgbililgkhjfaaDoor.Crc Go.Proofs.YtdgbililgkhjfaaDoor.Codec Go.Proofs.YtdgbililgkhjfaaDoor.CrcWalk
set_option linter.unusedVariables false
set_option maxRecDepth 100000 in
set_option maxHeartbeats 8000000 in
theorem sk4zO : SkZ 4 8 94 56 139 140 := by
  intro q T v b L c R0 R1 R2 R3 R4 R5 w hm hh hd hg he hr0
  have HE := Lib.hid he
  clear he
  have n1 := hm.nb
  have m1 := hm.mb
  have n2 := hm.nl
  have m2 := hm.ml
  have n3 := hm.nm
  have m3 := hm.mm
  have l4 := hd.l4
  have n4 := hd.n4
  have HD := Lib.hid hd
  have HG := Lib.hid hg
  clear hd hg
  have HH := Lib.hid hh
  have HR0 := Lib.hid hr0
  clear hm hh hr0
  unfold Fields
  go_enter Tryd.func57, Tryd.ntmps57
  go_upto_region 0 with fail
  go_cut [] (fun wx => R1 wx)
  case first =>
    go_region_with (refine (HH.out.h1 _ (HH.out.d0 _ HR0.out)).mono ?_; rintro r0 w1 ⟨rfl, hs1⟩)
    all_goals (go_wp2_with fail; go_meet; exact hs1)
  case rest =>
  have HS1 := Lib.hid hcut
  clear hcut HR0 n1 m1
  go_upto_region 1 with fail
  go_cut [] (fun wx => R2 wx)
  case first =>
    go_region_with (refine (HH.out.h2 _ _ HS1.out ⟨((Below.refl _ _).alloc (Nat.le_refl _) _).drew, heap_alloc_new _ _⟩).mono ?_; rintro r1 w2 ⟨rfl, hs2⟩)
    all_goals (go_wp2_with fail; go_meet; exact hs2)
  case rest =>
  have hkc := HH.out.kd _ hcut
  have HS2 := Lib.hid hcut
  clear hcut HS1
  go_upto_region 15 with fail
  go_cut [] (fun wx => R3 wx)
  case first =>
    go_region_with (refine (HD.out.h3 _ _ HS2.out ⟨((Below.refl _ _).alloc (Nat.le_refl _) _).drew, heap_alloc_new _ _⟩).mono ?_; rintro r1 w3 ⟨rfl, hs3⟩)
    all_goals (go_wp2_with fail; go_meet; exact hs3)
  case rest =>
  have hc3 := HD.out.c3 _ (HD.out.d3 _ hcut)
  have HS3 := Lib.hid hcut
  clear hcut HS2 hkc
  go_upto_region 16 with fail
  go_cut [] (fun wx => R5 wx)
  case first =>
    go_region_with (first | (refine (HD.out.h4 _ (HD.out.d3 _ HS3.out)).mono ?_; rintro r4 w4 ⟨rfl, hs4⟩; have hc4 := HD.out.c4 _ hs4; have HS4 := Lib.hid hs4; clear hs4) | (refine (HG.out _ HS4.out).mono ?_; rintro r5 w5 ⟨rfl, hc5, hf5, hs5⟩; have HS5 := Lib.hid hs5; clear hs5))
    all_goals (go_wp2_with fail; go_meet; exact HS5.out)
  case rest =>
  have hc6 := HE.out _ hcut
  have HS6 := Lib.hid hcut
  clear hcut HS3 hc3
  go_wp2
  go_loopw [5, 128] (fun _ i wr => i = .int .i64 0 ∧ R5 wr) (fun _ _ _ => 0)
  case atStart => exact ⟨rfl, HS6.out⟩
  case round =>
    obtain ⟨rfl, hr⟩ := hrel
    have HR := Lib.hid hr
    clear hr
    go_wp2
    go_end0
    exact ⟨rfl, HR.out⟩
end Go.Proofs.YtdgbililgkhjfaaDoor.Pk
namespace Go.Proofs.YtdgbililgkhjfaaDoor.Pk
open Go.RowKit Go.Proofs.YtdgbililgkhjfaaDoor.Crc Go.Proofs.YtdgbililgkhjfaaDoor.Codec Go.Proofs.YtdgbililgkhjfaaDoor.CrcWalk
set_option linter.unusedVariables false
set_option maxRecDepth 100000 in
set_option maxHeartbeats 8000000 in
theorem sk3O : SkL 3 7 93 1 56 139 140 := by
  intro q T v b L c n R0 R1 R2 R3 R4 R6 R5 w hm hh hd hg hc hw hb he hr0
  simp only [Nat.mul_one] at hb he
  have HE := Lib.hid he
  have HB := Lib.hid hb
  have HC := Lib.hid hc
  have HW := Lib.hid hw
  clear he hb hc hw
  have n1 := hm.nb
  have m1 := hm.mb
  have n2 := hm.nl
  have m2 := hm.ml
  have n3 := hm.nm
  have m3 := hm.mm
  have l4 := hd.l4
  have n4 := hd.n4
  have HD := Lib.hid hd
  have HG := Lib.hid hg
  clear hd hg
  have HH := Lib.hid hh
  have HR0 := Lib.hid hr0
  clear hm hh hr0
  have n1' := n1
  have m1' := m1
  unfold Fields
  go_enter Tryd.func57, Tryd.ntmps57
  go_upto_region 0 with fail
  go_cut [] (fun wx => R1 wx)
  case first =>
    go_region_with (refine (HH.out.h1 _ (HH.out.d0 _ HR0.out)).mono ?_; rintro r0 w1 ⟨rfl, hs1⟩)
    all_goals (go_wp2_with fail; go_meet; exact hs1)
  case rest =>
  have HS1 := Lib.hid hcut
  clear hcut HR0 n1 m1
  go_upto_region 1 with fail
  go_cut [] (fun wx => R2 wx)
  case first =>
    go_region_with (refine (HH.out.h2 _ _ HS1.out ⟨((Below.refl _ _).alloc (Nat.le_refl _) _).drew, heap_alloc_new _ _⟩).mono ?_; rintro r1 w2 ⟨rfl, hs2⟩)
    all_goals (go_wp2_with fail; go_meet; exact hs2)
  case rest =>
  have hkc := HH.out.kd _ hcut
  have HS2 := Lib.hid hcut
  clear hcut HS1
  go_upto_region 7 with fail
  go_cut [] (fun wx => R3 wx)
  case first =>
    go_region_with (refine (HD.out.h3 _ _ HS2.out ⟨((Below.refl _ _).alloc (Nat.le_refl _) _).drew, heap_alloc_new _ _⟩).mono ?_; rintro r1 w3 ⟨rfl, hs3⟩)
    all_goals (go_wp2_with fail; go_meet; exact hs3)
  case rest =>
  have hc3 := HD.out.c3 _ (HD.out.d3 _ hcut)
  have HS3 := Lib.hid hcut
  clear hcut HS2 hkc
  go_upto_region 8 with fail
  go_cut [] (fun wx => ∃ g c', R5 g c' 0 wx)
  case first =>
    go_region_with (first | (refine (HD.out.h4 _ (HD.out.d3 _ HS3.out)).mono ?_; rintro r4 w4 ⟨rfl, hs4⟩; have hc4 := HD.out.c4 _ hs4; have HS4 := Lib.hid hs4; clear hs4) | (refine (HG.out _ HS4.out).mono ?_; rintro r5 w5 ⟨g, c', rfl, hnc, hcm, hc5, hf5, hs5⟩; have HS5 := Lib.hid hs5; clear hs5))
    all_goals (go_wp2_with fail; go_meet; exact ⟨g, c', HS5.out⟩)
  case rest =>
  obtain ⟨g, c', hcut⟩ := hcut
  obtain ⟨hnc, hcm, hc6⟩ := HC.out _ _ _ _ hcut
  have hcm2 : c' ≤ 9223372036854775807 := hcm
  have HS6 := Lib.hid hcut
  clear hcut HS3 hc3 hcm
  go_wp2
  go_loopw [4, 79] (fun _ i wr => ∃ k : Nat, k ≤ n ∧ i = .int .i64 k ∧ R5 g c' (k) wr) (fun _ i _ => n - (intOf i).toNat)
  case atStart => exact ⟨0, Nat.zero_le _, rfl, HS6.out⟩
  case round =>
    obtain ⟨k, hk, rfl, hr⟩ := hrel
    obtain ⟨_, _, hc7⟩ := HC.out _ _ _ _ (HW.out _ _ _ _ hr)
    by_cases hlt : k < n
    · have HR := Lib.hid hr
      clear hr HS6 hc6
      go_upto_region 12 with fail
      go_region_with (refine (HB.out g c' (k) _ (HW.out g c' (k) _ HR.out) (by omega)).mono ?_; rintro r6 w6 ⟨rfl, hs6⟩)
      all_goals
        have HS7 := Lib.hid hs6
        clear hs6 HR
        go_wp2
        go_roundw
        case rel => exact ⟨k + 1, by omega, by go_num, HS7.out⟩
        case measure => simp [intOf]; omega
    · obtain rfl : k = n := by omega
      have HR := Lib.hid (HE.out _ _ _ hr)
      clear hr HS6 hc6
      go_wp2
      go_end0
      exact ⟨rfl, HR.out⟩
end Go.Proofs.YtdgbililgkhjfaaDoor.Pk
namespace Go.Proofs.YtdgbililgkhjfaaDoor.Pk
open Go.RowKit Go.Proofs.YtdgbililgkhjfaaDoor.Crc Go.Proofs.YtdgbililgkhjfaaDoor.Codec Go.Proofs.YtdgbililgkhjfaaDoor.CrcWalk
set_option linter.unusedVariables false
set_option maxRecDepth 100000 in
set_option maxHeartbeats 8000000 in
theorem sk4O : SkL 4 8 94 2 56 139 140 := by
  intro q T v b L c n R0 R1 R2 R3 R4 R6 R5 w hm hh hd hg hc hw hb he hr0
  have HE := Lib.hid he
  have HB := Lib.hid hb
  have HC := Lib.hid hc
  have HW := Lib.hid hw
  clear he hb hc hw
  have n1 := hm.nb
  have m1 := hm.mb
  have n2 := hm.nl
  have m2 := hm.ml
  have n3 := hm.nm
  have m3 := hm.mm
  have l4 := hd.l4
  have n4 := hd.n4
  have HD := Lib.hid hd
  have HG := Lib.hid hg
  clear hd hg
  have HH := Lib.hid hh
  have HR0 := Lib.hid hr0
  clear hm hh hr0
  have n1' := n1
  have m1' := m1
  unfold Fields
  go_enter Tryd.func57, Tryd.ntmps57
  go_upto_region 0 with fail
  go_cut [] (fun wx => R1 wx)
  case first =>
    go_region_with (refine (HH.out.h1 _ (HH.out.d0 _ HR0.out)).mono ?_; rintro r0 w1 ⟨rfl, hs1⟩)
    all_goals (go_wp2_with fail; go_meet; exact hs1)
  case rest =>
  have HS1 := Lib.hid hcut
  clear hcut HR0 n1 m1
  go_upto_region 1 with fail
  go_cut [] (fun wx => R2 wx)
  case first =>
    go_region_with (refine (HH.out.h2 _ _ HS1.out ⟨((Below.refl _ _).alloc (Nat.le_refl _) _).drew, heap_alloc_new _ _⟩).mono ?_; rintro r1 w2 ⟨rfl, hs2⟩)
    all_goals (go_wp2_with fail; go_meet; exact hs2)
  case rest =>
  have hkc := HH.out.kd _ hcut
  have HS2 := Lib.hid hcut
  clear hcut HS1
  go_upto_region 15 with fail
  go_cut [] (fun wx => R3 wx)
  case first =>
    go_region_with (refine (HD.out.h3 _ _ HS2.out ⟨((Below.refl _ _).alloc (Nat.le_refl _) _).drew, heap_alloc_new _ _⟩).mono ?_; rintro r1 w3 ⟨rfl, hs3⟩)
    all_goals (go_wp2_with fail; go_meet; exact hs3)
  case rest =>
  have hc3 := HD.out.c3 _ (HD.out.d3 _ hcut)
  have HS3 := Lib.hid hcut
  clear hcut HS2 hkc
  go_upto_region 16 with fail
  go_cut [] (fun wx => ∃ g c', R5 g c' 0 wx)
  case first =>
    go_region_with (first | (refine (HD.out.h4 _ (HD.out.d3 _ HS3.out)).mono ?_; rintro r4 w4 ⟨rfl, hs4⟩; have hc4 := HD.out.c4 _ hs4; have HS4 := Lib.hid hs4; clear hs4) | (refine (HG.out _ HS4.out).mono ?_; rintro r5 w5 ⟨g, c', rfl, hnc, hcm, hc5, hf5, hs5⟩; have HS5 := Lib.hid hs5; clear hs5))
    all_goals (go_wp2_with fail; go_meet; exact ⟨g, c', HS5.out⟩)
  case rest =>
  obtain ⟨g, c', hcut⟩ := hcut
  obtain ⟨hnc, hcm, hc6⟩ := HC.out _ _ _ _ hcut
  have hcm2 : c' ≤ 9223372036854775807 := hcm
  have HS6 := Lib.hid hcut
  clear hcut HS3 hc3 hcm
  go_wp2
  go_loopw [5, 128] (fun _ i wr => ∃ k : Nat, k ≤ n ∧ i = .int .i64 k ∧ R5 g c' (k * 2) wr) (fun _ i _ => n - (intOf i).toNat)
  case atStart => exact ⟨0, Nat.zero_le _, rfl, by rw [Nat.zero_mul]; exact HS6.out⟩
  case round =>
    obtain ⟨k, hk, rfl, hr⟩ := hrel
    obtain ⟨_, _, hc7⟩ := HC.out _ _ _ _ (HW.out _ _ _ _ hr)
    by_cases hlt : k < n
    · have HR := Lib.hid hr
      clear hr HS6 hc6
      go_upto_region 20 with fail
      go_cut [128] from 128 to 155 (fun i wx => i = .int .i64 k ∧ R5 g c' (k * 2 + 1) wx)
      case first =>
        go_region_with (refine (HB.out g c' (k * 2) _ (HW.out g c' (k * 2) _ HR.out) (by omega)).mono ?_; rintro r6 w6 ⟨rfl, hs6⟩)
        all_goals (go_wp2_with fail; go_meet; exact ⟨rfl, hs6⟩)
      case rest =>
      obtain ⟨rfl, hcut⟩ := hcut
      have HR2 := Lib.hid hcut
      obtain ⟨_, _, hc8⟩ := HC.out _ _ _ _ (HW.out _ _ _ _ hcut)
      clear hcut HR hc7
      go_upto_region 21 with fail
      go_region_with (refine (HB.out g c' (k * 2 + 1) _ (HW.out g c' (k * 2 + 1) _ HR2.out) (by omega)).mono ?_; rintro r6 w6 ⟨rfl, hs6⟩)
      all_goals
        have HS7 := Lib.hid hs6
        clear hs6 HR2
        go_wp2
        go_roundw
        case rel => exact ⟨k + 1, by omega, by go_num, by rw [Nat.add_mul]; exact HS7.out⟩
        case measure => simp [intOf]; omega
    · obtain rfl : k = n := by omega
      have HR := Lib.hid (HE.out _ _ _ hr)
      clear hr HS6 hc6
      go_wp2
      go_end0
      exact ⟨rfl, HR.out⟩
end Go.Proofs.YtdgbililgkhjfaaDoor.Pk
