/- What the document's Next of the layer frame answers: walked. No condition but the size. -/
import Derived.Test.YtdgbililgkhjfaaDoorFrameB
namespace Go.Proofs.YtdgbililgkhjfaaDoor.Frame
open Go.RowKit Go.Proofs.YtdgbililgkhjfaaDoor.Crc Go.Proofs.YtdgbililgkhjfaaDoor.Codec Go.Proofs.YtdgbililgkhjfaaDoor.CrcWalk
set_option linter.unusedVariables false
theorem str_eq {a b : ByteArray} (h : a.data.toList = b.data.toList) : (a.toList == b.toList) = true := by rw [ByteArray.toList_eq, ByteArray.toList_eq, h]; simp
theorem str_ne {a b : ByteArray} (h : a.data.toList ≠ b.data.toList) : (a.toList == b.toList) = false := by rw [ByteArray.toList_eq, ByteArray.toList_eq]; simpa using h
theorem V_two {l : List UInt8} {a b : UInt8} {m : List UInt8} (h : l = a :: b :: m) : V (l.take 2) = a.toNat + 256 * b.toNat := by
  rw [h]; simp [V]
/-- A frame's head is that of its payload just where the sum is right. -/
theorem head_iff (l p : List UInt8) (h6 : 6 ≤ l.length) (hp : p.length = V (l.take 2)) : fhead p = l.take 6 ↔ crc 0 (l.take 2 ++ p) = V ((l.drop 2).take 4) := by
  have e2 : leB p.length 2 = l.take 2 := by
    have := V_leB (l.take 2)
    rw [List.length_take, Nat.min_eq_left (by omega), ← hp] at this
    exact this
  have e6 : l.take 6 = l.take 2 ++ (l.drop 2).take 4 := by rw [show 6 = 2 + 4 from rfl, List.take_add]
  unfold fhead
  rw [e2, e6]
  constructor
  · intro h
    have h4 := List.append_cancel_left h
    have := congrArg V h4
    rw [leB_V] at this
    rw [← this]
    exact (Nat.mod_eq_of_lt (crc_lt (by decide) _)).symm
  · intro h
    congr 1
    rw [h]
    have := V_leB ((l.drop 2).take 4)
    rw [List.length_take, List.length_drop, Nat.min_eq_left (by omega)] at this
    exact this
set_option maxRecDepth 100000 in
set_option maxHeartbeats 1000000 in
/-- What the document's 'Next' answers. -/
theorem rnext_any (s : ByteArray) (w : World) (hs : s.size ≤ maxLen) :
    Calls Tryd.prog 70 #[.string s] w fun r w' => r = .returned (.tuple #[.string (bs (fnP s.data.toList)), .int .i64 (fnU s.data.toList : Nat), .int .i64 (fnE s.data.toList)]) ∧ Below w.heap.size w w' := by
  have hs1 := hs
  unfold maxLen at hs1
  obtain ⟨l, hl⟩ : ∃ l, l = s.data.toList := ⟨_, rfl⟩
  have hlen : l.length = s.size := by rw [hl]; simp
  rw [← hl]
  by_cases h6 : s.size < 6
  · have e1 : fnP l = [] := by unfold fnP; rw [if_pos (by omega)]
    have e2 : fnU l = 0 := by unfold fnU; rw [if_pos (by omega)]
    have e3 : fnE l = 10 := by unfold fnE; rw [if_pos (by omega)]
    rw [e1, e2, e3]
    clear e1 e2 e3 hlen hl
    go_enter Tryd.func70, Tryd.ntmps70
    go_wp2
    go_ret3
    exact ⟨rfl, Below.refl _ _⟩
  · have p6 : ¬ l.length < 6 := by omega
    obtain ⟨n, hn⟩ : ∃ n, n = V (l.take 2) := ⟨_, rfl⟩
    have hnl : n < 65536 := by
      rw [hn]; have := V_lt (l.take 2)
      rw [List.length_take, Nat.min_eq_left (by omega)] at this
      exact this
    have i0 : (0 : Int) < (s.size : Int) := by omega
    have i1 : (1 : Int) < (s.size : Int) := by omega
    have j0 : 0 < s.size := by omega
    have j1 : 1 < s.size := by omega
    have hn2 : n = s[0].toNat + 256 * s[1].toNat := by
      rw [hn, hl]
      have e : s.data.toList.take 2 = [s[0], s[1]] := by
        apply List.ext_getElem
        · simp; omega
        · intro i h1 h2
          have hi : i = 0 ∨ i = 1 := by simp at h2; omega
          rcases hi with rfl | rfl <;> simp <;> rfl
      rw [e]; simp [V]
    have b0 := UInt8.toNat_lt s[0]
    have b1 := UInt8.toNat_lt s[1]
    obtain ⟨a0, ha0⟩ : ∃ a : Nat, a = s[0].toNat := ⟨_, rfl⟩
    obtain ⟨a1, ha1⟩ : ∃ a : Nat, a = s[1].toNat := ⟨_, rfl⟩
    obtain ⟨a2, ha2⟩ : ∃ a : Nat, a = 256 * a1 := ⟨_, rfl⟩
    rw [← ha0] at b0 hn2
    rw [← ha1] at b1 hn2
    have f0 : IntKind.i64.wrap ((s[0].toNat : Nat) : Int) = (a0 : Int) := by rw [← ha0]; exact IntWalk.i64_in _ (by omega)
    have f1 : IntKind.i64.wrap ((s[1].toNat : Nat) : Int) = (a1 : Int) := by rw [← ha1]; exact IntWalk.i64_in _ (by omega)
    have f2 : IntKind.i64.wrap (256 * (a1 : Int)) = (a2 : Int) := by rw [IntWalk.i64_in _ (by omega)]; omega
    have f3 : IntKind.i64.wrap ((a0 : Int) + (a2 : Int)) = (n : Int) := by rw [IntWalk.i64_in _ (by omega)]; omega
    clear hn2 b0 b1 ha0 ha1 ha2
    by_cases h4096 : 4096 < n
    · have e1 : fnP l = [] := by unfold fnP; rw [if_neg p6, ← hn, if_pos h4096]
      have e2 : fnU l = 0 := by unfold fnU; rw [if_neg p6, ← hn, if_pos h4096]
      have e3 : fnE l = 3 := by unfold fnE; rw [if_neg p6, ← hn, if_pos h4096]
      rw [e1, e2, e3]
      clear e1 e2 e3 hlen hl hn
      go_enter Tryd.func70, Tryd.ntmps70
      go_wp2_with fail
      go_quiet (fail)
      clear f0 f1 f2 f3
      go_wp2
      go_ret3
      exact ⟨rfl, bel_drewN (Below.refl _ _) _⟩
    · by_cases hlt : s.size - 6 < n
      · have hlt' : l.length - 6 < n := by omega
        have e1 : fnP l = [] := by unfold fnP; rw [if_neg p6, ← hn, if_neg h4096, if_pos hlt']
        have e2 : fnU l = 0 := by unfold fnU; rw [if_neg p6, ← hn, if_neg h4096, if_pos hlt']
        have e3 : fnE l = 10 := by unfold fnE; rw [if_neg p6, ← hn, if_neg h4096, if_pos hlt']
        rw [e1, e2, e3]
        have hlt2 : (s.size : Int) - 6 < (n : Int) := by omega
        clear e1 e2 e3 hlen hl hn hlt'
        go_enter Tryd.func70, Tryd.ntmps70
        go_wp2_with fail
        go_quiet (fail)
        clear f0 f1 f2 f3
        go_wp2
        go_ret3
        exact ⟨rfl, bel_drewN (Below.refl _ _) _⟩
      · have hlt' : ¬ l.length - 6 < n := by omega
        have hlt2 : ¬ (s.size : Int) - 6 < (n : Int) := by omega
        obtain ⟨pp, hpp⟩ : ∃ pp, pp = s.extract 6 (6 + n) := ⟨_, rfl⟩
        have hppl : pp.data.toList = (l.drop 6).take n := by rw [hpp, ex_list, hl]; congr 1; omega
        have hpps : pp.size = n := by rw [size_list, hppl, List.length_take, List.length_drop]; omega
        have hiff := head_iff l pp.data.toList (by omega) (by rw [← size_list, hpps, hn])
        have hput : fput pp.data.toList = fhead pp.data.toList ++ pp.data.toList := by unfold fput; rw [if_pos (by rw [← size_list]; omega)]
        have cput := fun W => rput_any pp W (by rw [hpps]; unfold maxLen; omega)
        obtain ⟨R, hR⟩ : ∃ R, R = bs (fput pp.data.toList) := ⟨_, rfl⟩
        obtain ⟨E, hE⟩ : ∃ E, E = fputE pp.data.toList := ⟨_, rfl⟩
        rw [← hR, ← hE] at cput
        have hRs : 6 ≤ R.size := by rw [hR, bs_size, hput, List.length_append, fhead_length]; omega
        have hR6 : (R.extract 0 6).data.toList = fhead pp.data.toList := by rw [ex_take, hR, bs_toList, hput]; exact List.take_left' (fhead_length _)
        have hs6 : (s.extract 0 6).data.toList = l.take 6 := by rw [ex_take, hl]
        have CP := Lib.hid cput
        have ecut : s.extract 6 (6 + n) = pp := hpp.symm
        clear cput hR hE hpp
        by_cases hc : crc 0 (l.take 2 ++ (l.drop 6).take n) = V ((l.drop 2).take 4)
        · have e1 : fnP l = (l.drop 6).take n := by unfold fnP; rw [if_neg p6, ← hn, if_neg h4096, if_neg hlt', if_pos hc]
          have e2 : fnU l = 6 + n := by unfold fnU; rw [if_neg p6, ← hn, if_neg h4096, if_neg hlt', if_pos hc]
          have e3 : fnE l = 0 := by unfold fnE; rw [if_neg p6, ← hn, if_neg h4096, if_neg hlt', if_pos hc]
          have epp := eq_bs hppl
          rw [e1, e2, e3, ← epp]
          have teq : ((R.extract 0 6).toList == (s.extract 0 6).toList) = true := str_eq (by rw [hR6, hs6, hiff, hppl]; exact hc)
          clear hl hlen hn hlt' hppl hpps hiff hput hR6 hs6 hc e1 e2 e3 epp
          go_enter Tryd.func70, Tryd.ntmps70
          go_wp2_with fail
          go_quiet (fail)
          clear f0 f1 f2 f3
          go_wp2_with fail
          refine (CP.out _).mono ?_
          rintro r w1 ⟨rfl, hb⟩
          go_wp2_with fail
          go_quiet (fail)
          go_wp2
          go_ret3
          exact ⟨by rw [ecut]; rfl, bel_drewN ((bel_drewN (Below.refl _ _) _).trans hb) _⟩
        · have e1 : fnP l = [] := by unfold fnP; rw [if_neg p6, ← hn, if_neg h4096, if_neg hlt', if_neg hc]
          have e2 : fnU l = 0 := by unfold fnU; rw [if_neg p6, ← hn, if_neg h4096, if_neg hlt', if_neg hc]
          have e3 : fnE l = 9 := by unfold fnE; rw [if_neg p6, ← hn, if_neg h4096, if_neg hlt', if_neg hc]
          rw [e1, e2, e3]
          have teq : ((R.extract 0 6).toList == (s.extract 0 6).toList) = false := str_ne (by rw [hR6, hs6]; intro h; exact hc (by rw [← hppl]; exact hiff.1 h))
          clear hl hlen hn hlt' hppl hpps hiff hput hR6 hs6 hc e1 e2 e3
          go_enter Tryd.func70, Tryd.ntmps70
          go_wp2_with fail
          go_quiet (fail)
          clear f0 f1 f2 f3
          go_wp2_with fail
          refine (CP.out _).mono ?_
          rintro r w1 ⟨rfl, hb⟩
          go_wp2_with fail
          go_quiet (fail)
          go_wp2
          go_ret3
          exact ⟨rfl, bel_drewN ((bel_drewN (Below.refl _ _) _).trans hb) _⟩
end Go.Proofs.YtdgbililgkhjfaaDoor.Frame
