/- The small functions of the laws of the layer frame, and the law FramePuts: walked. Condition: the world holds the table. -/
import Derived.Test.YtgmnojignnjejaaDoorFrameC
namespace Go.Proofs.YtgmnojignnjejaaDoor.Frame
open Go.RowKit Go.Proofs.YtgmnojignnjejaaDoor.Crc Go.Proofs.YtgmnojignnjejaaDoor.Codec Go.Proofs.YtgmnojignnjejaaDoor.CrcWalk
set_option linter.unusedVariables false
theorem fn_none {l : List UInt8} (h : fnE l ≠ 0) : fnP l = [] ∧ fnU l = 0 := by
  unfold fnE at h
  unfold fnP fnU
  by_cases h1 : l.length < 6
  · rw [if_pos h1, if_pos h1]; exact ⟨rfl, rfl⟩
  · rw [if_neg h1] at h ⊢; rw [if_neg h1]
    by_cases h2 : 4096 < V (l.take 2)
    · rw [if_pos h2, if_pos h2]; exact ⟨rfl, rfl⟩
    · rw [if_neg h2] at h ⊢; rw [if_neg h2]
      by_cases h3 : l.length - 6 < V (l.take 2)
      · rw [if_pos h3, if_pos h3]; exact ⟨rfl, rfl⟩
      · rw [if_neg h3] at h ⊢; rw [if_neg h3]
        by_cases h4 : crc 0 (l.take 2 ++ (l.drop 6).take (V (l.take 2))) = V ((l.drop 2).take 4)
        · rw [if_pos h4] at h; exact absurd rfl h
        · rw [if_neg h4, if_neg h4]; exact ⟨rfl, rfl⟩
set_option maxRecDepth 100000 in
theorem lput_any (s : ByteArray) (w : World) (hs : s.size ≤ maxLen) (hT : Tab w) :
    Calls Tryd.prog 12 #[.string s] w fun r w' => r = .returned (.string (bs (fput s.data.toList))) ∧ Below w.heap.size w w' := by
  go_enter Tryd.func12, Tryd.ntmps12
  go_wp2_with fail
  refine (put_any s w hs hT).mono ?_
  rintro r w1 ⟨rfl, hb⟩
  go_wp2
  go_ret
  exact ⟨rfl, hb⟩
set_option maxRecDepth 100000 in
theorem fails_yes (s : ByteArray) (e : Int) (w : World) (hs : s.size ≤ maxLen) (hT : Tab w) (he : fnE s.data.toList = e) (h0 : e ≠ 0) :
    Calls Tryd.prog 13 #[.string s, .int .i64 e] w fun r w' => r = .returned (.bool true) ∧ Below w.heap.size w w' := by
  obtain ⟨h1, h2⟩ := fn_none (l := s.data.toList) (by rw [he]; exact h0)
  have hn := next_any s w hs hT
  rw [h1, h2, he] at hn
  have HN := Lib.hid hn
  have hbs : bs [] = ⟨#[]⟩ := rfl
  rw [hbs] at HN
  clear hn h1 h2 he hbs
  go_enter Tryd.func13, Tryd.ntmps13
  go_wp2_with fail
  refine HN.out.mono ?_
  rintro r w1 ⟨rfl, hb⟩
  go_wp2
  go_ret
  exact ⟨rfl, hb⟩
set_option maxRecDepth 100000 in
theorem works_any (w : World) (hT : Tab w) :
    Calls Tryd.prog 9 #[] w fun r w' => r = .returned (.bool true) ∧ Below w.heap.size w w' := by
  have hA := fun W (h : Tab W) => lput_any ⟨#[97]⟩ W (by decide) h
  have hE := fun W (h : Tab W) => lput_any ⟨#[]⟩ W (by decide) h
  have eE : bs (fput (⟨#[]⟩ : ByteArray).data.toList) = ⟨#[0, 0, 255, 18, 217, 65]⟩ := by
    have : fput [] = [0, 0, 255, 18, 217, 65] := by decide +kernel
    exact congrArg bs this
  rw [eE] at hE
  obtain ⟨A, hA2⟩ : ∃ A, A = bs (fput (⟨#[97]⟩ : ByteArray).data.toList) := ⟨_, rfl⟩
  rw [← hA2] at hA
  have hAs : A.size = 7 := by rw [hA2, bs_size]; exact fput_length (by decide)
  have hAl : (A ++ (⟨#[109, 111, 114, 101]⟩ : ByteArray)).data.toList = fput [97] ++ [109, 111, 114, 101] := by rw [hA2, to_bs_append]
  obtain ⟨n1, n2, n3⟩ := fn_fput [97] [109, 111, 114, 101] (by decide)
  have hN := fun W (h : Tab W) => next_any (A ++ (⟨#[109, 111, 114, 101]⟩ : ByteArray)) W (by simp; rw [hAs]; decide) h
  rw [hAl, n1, n2, n3, show bs [97] = ⟨#[97]⟩ from rfl] at hN
  have hAb : A.size ≤ 7 := by omega
  have HA := Lib.hid hA
  have HE := Lib.hid hE
  have HN := Lib.hid hN
  clear hA hE hN hA2 hAs hAl n1 n2 n3 eE
  go_enter Tryd.func9, Tryd.ntmps9
  go_wp2_with fail
  refine (HA.out w hT).mono ?_
  rintro r w1 ⟨rfl, hb1⟩
  have hT1 := tab_below hT hb1
  go_wp2_with fail
  refine (HN.out w1 hT1).mono ?_
  rintro r w2 ⟨rfl, hb2⟩
  have hT2 := tab_below hT1 hb2
  go_wp2_with fail
  refine (HE.out w2 hT2).mono ?_
  rintro r w3 ⟨rfl, hb3⟩
  have hT3 := tab_below hT2 hb3
  go_wp2_with fail
  refine (fails_yes ⟨#[]⟩ 10 w3 (by decide) hT3 (by decide +kernel) (by decide)).mono ?_
  rintro r w4 ⟨rfl, hb4⟩
  have hb := ((hb1.trans (hb2.mono hb1.size)).trans (hb3.mono (Nat.le_trans hb1.size hb2.size))).trans (hb4.mono (Nat.le_trans (Nat.le_trans hb1.size hb2.size) hb3.size))
  go_wp2
  go_ret
  exact ⟨rfl, hb⟩
set_option maxRecDepth 100000 in
/-- P4.1: the law FramePuts. -/
theorem puts_law (s : ByteArray) (w : World) (hs : s.size ≤ maxLen) (hT : Tab w) :
    Calls Tryd.prog 3 #[.string s] w fun r w' => r = .returned (.bool true) ∧ Below w.heap.size w w' := by
  have hs1 := hs
  unfold maxLen at hs1
  by_cases h : s.size ≤ 9000
  · have hp := put_any s w hs hT
    have hr := fun W => rput_any s W hs
    obtain ⟨P, hP⟩ : ∃ P, P = bs (fput s.data.toList) := ⟨_, rfl⟩
    obtain ⟨E, hE⟩ : ∃ E, E = fputE s.data.toList := ⟨_, rfl⟩
    rw [← hP, ← hE] at hp hr
    have HP := Lib.hid hp
    have HR := Lib.hid hr
    clear hp hr hP hE
    go_enter Tryd.func3, Tryd.ntmps3
    go_wp2_with fail
    refine HP.out.mono ?_
    rintro r w1 ⟨rfl, hb1⟩
    go_wp2_with fail
    refine (HR.out w1).mono ?_
    rintro r w2 ⟨rfl, hb2⟩
    have hb := hb1.trans (hb2.mono hb1.size)
    go_wp2_with fail
    refine (works_any w2 (tab_below hT hb)).mono ?_
    rintro r w3 ⟨rfl, hb3⟩
    have hb' := hb.trans (hb3.mono hb.size)
    go_wp2
    go_ret
    exact ⟨rfl, hb'⟩
  · go_enter Tryd.func3, Tryd.ntmps3
    go_wp2_with fail
    refine (works_any w hT).mono ?_
    rintro r w3 ⟨rfl, hb3⟩
    go_wp2
    go_ret
    exact ⟨rfl, hb3⟩
end Go.Proofs.YtgmnojignnjejaaDoor.Frame
