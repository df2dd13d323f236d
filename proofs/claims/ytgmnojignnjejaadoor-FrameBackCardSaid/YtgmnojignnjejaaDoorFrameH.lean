/- The law FrameReads: walked. Condition: the world holds the table. -/
import Derived.Test.YtgmnojignnjejaaDoorFrameG
import Derived.Test.YtgmnojignnjejaaDoorFrameD
namespace Go.Proofs.YtgmnojignnjejaaDoor.Frame
open Go.RowKit Go.Proofs.YtgmnojignnjejaaDoor.Crc Go.Proofs.YtgmnojignnjejaaDoor.Codec Go.Proofs.YtgmnojignnjejaaDoor.CrcWalk
set_option linter.unusedVariables false
theorem faP_le (k : Nat) : ∀ l : List UInt8, (faP k l).length ≤ k := by
  induction k with
  | zero => intro l; exact Nat.le_refl _
  | succ k ih =>
    intro l
    unfold faP
    by_cases h : l = []
    · rw [if_pos h]; exact Nat.zero_le _
    · rw [if_neg h]
      by_cases he : fnE l = 0
      · rw [if_pos he]; simp; exact ih _
      · rw [if_neg he]; exact Nat.zero_le _
set_option maxRecDepth 100000 in
/-- P4.2, P4.3: the law FrameReads. -/
theorem reads_law (s : ByteArray) (w : World) (hs : s.size ≤ maxLen) (hT : Tab w) :
    Calls Tryd.prog 5 #[.string s] w fun r w' => r = .returned (.bool true) ∧ Below w.heap.size w w' := by
  have hs1 := hs
  unfold maxLen at hs1
  by_cases h : s.size ≤ 9000
  · have hp := next_any s w hs hT
    have hr := fun W => rnext_any s W hs
    have ha := fun W h => all_any s W (by omega) h
    have hra := fun W => rall_any s W (by omega)
    have hsm := fun W v1 v2 B1 B2 => rsame_eq v1 v2 B1 B2 (faP s.size s.data.toList) W (Nat.le_trans (faP_le _ _) (by omega))
    obtain ⟨P, hP⟩ : ∃ P, P = bs (fnP s.data.toList) := ⟨_, rfl⟩
    obtain ⟨U, hU⟩ : ∃ U, U = fnU s.data.toList := ⟨_, rfl⟩
    obtain ⟨E, hE⟩ : ∃ E, E = fnE s.data.toList := ⟨_, rfl⟩
    obtain ⟨AP, hAP⟩ : ∃ AP, AP = faP s.size s.data.toList := ⟨_, rfl⟩
    obtain ⟨AU, hAU⟩ : ∃ AU, AU = faU s.size s.data.toList := ⟨_, rfl⟩
    obtain ⟨AE, hAE⟩ : ∃ AE, AE = faE s.size s.data.toList := ⟨_, rfl⟩
    rw [← hP, ← hU, ← hE] at hp hr
    rw [← hAP, ← hAU, ← hAE] at ha hra
    rw [← hAP] at hsm
    have HP := Lib.hid hp
    have HR := Lib.hid hr
    have HA := Lib.hid ha
    have HRA := Lib.hid hra
    have HS := Lib.hid hsm
    clear hp hr ha hra hsm hP hU hE hAP hAU hAE
    go_enter Tryd.func5, Tryd.ntmps5
    go_wp2_with fail
    refine HP.out.mono ?_
    rintro r w1 ⟨rfl, hb1⟩
    go_wp2_with fail
    refine (HR.out w1).mono ?_
    rintro r w2 ⟨rfl, hb2⟩
    have hb := hb1.trans (hb2.mono hb1.size)
    clear hb1 hb2
    go_wp2_with fail
    refine (HA.out w2 (tab_below hT hb)).mono ?_
    rintro r w3 ⟨⟨v1, rfl, hown1⟩, hb3⟩
    have hbb := hb.trans (hb3.mono hb.size)
    clear hb hb3
    have HO1 := Lib.hid hown1
    clear hown1
    go_wp2_with fail
    refine (HRA.out w3).mono ?_
    rintro r w4 ⟨⟨v2, rfl, hown2⟩, hb4⟩
    have HO2 := Lib.hid hown2
    have HO3 := Lib.hid (row_below HO1.out hb4)
    have hb5 := hbb.trans (hb4.mono hbb.size)
    clear hown2 hbb hb4 HO1
    go_wp2_with fail
    refine (HS.out w4 v1 v2 _ _ HO3.out HO2.out).mono ?_
    rintro r w5 ⟨rfl, hb6⟩
    have hb7 := hb5.trans (hb6.mono hb5.size)
    clear HO2 HO3 hb5 hb6
    go_wp2_with fail
    refine (works_any w5 (tab_below hT hb7)).mono ?_
    rintro r w6 ⟨rfl, hb8⟩
    have hb' := hb7.trans (hb8.mono hb7.size)
    clear hb7 hb8
    go_wp2
    go_ret
    exact ⟨rfl, hb'⟩
  · go_enter Tryd.func5, Tryd.ntmps5
    go_wp2_with fail
    refine (works_any w hT).mono ?_
    rintro r w3 ⟨rfl, hb3⟩
    go_wp2
    go_ret
    exact ⟨rfl, hb3⟩
end Go.Proofs.YtgmnojignnjejaaDoor.Frame
