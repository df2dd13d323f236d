/- The law FrameBack: walked. Condition: the world holds the table. -/
import Derived.Test.YtgmnojignnjejaaDoorFrameM0
import Derived.Test.YtgmnojignnjejaaDoorFrameL
import Derived.Deep.Strs
namespace Go.Proofs.YtgmnojignnjejaaDoor.Frame
open Go.RowKit Go.Proofs.YtgmnojignnjejaaDoor.Crc Go.Proofs.YtgmnojignnjejaaDoor.Codec Go.Proofs.YtgmnojignnjejaaDoor.CrcWalk
set_option linter.unusedVariables false
theorem info3 : (Tryd.prog.info? 3).map (fun i => (i.zero, i.size, i.bytes)) = some (some (.int .i64 0), 1, 8) := by kernel_rfl
/-- Texts that came in. -/
def Texts (w : World) (b : Option Addr) (n : Nat) (S : Nat → ByteArray) : Prop := ∀ i, i < n → ∃ a, b = some a ∧ a.block < w.heap.size ∧ w.cell? (a.add i) = some (.string (S i)) ∧ (S i).size ≤ maxLen
theorem texts_below {w w' : World} {b : Option Addr} {n : Nat} {S : Nat → ByteArray} (h : Texts w b n S) (hb : Below w.heap.size w w') : Texts w' b n S := by
  intro i hi
  obtain ⟨a, h1, h2, h3, h4⟩ := h i hi
  have hab : (a.add i).block = a.block := by unfold Addr.add; split <;> rfl
  exact ⟨a, h1, Nat.lt_of_lt_of_le h2 hb.size, (hb.cell (p := a.add i) (by rw [hab]; exact h2)).trans h3, h4⟩
/-- A []string that came in. -/
theorem texts_open {H : Type} {enc : TypeId × Value → H} {w : World} {base : Nat} {spare : Nat → Bool} {held : Bool} {fuel : Nat} {b : Option Addr} {n c : Nat} {x : DataW H × List MemPlace}
    (h : DataW.trod enc Tryd.prog w base spare held fuel 41 [.slice b n c] = some x) : n ≤ maxLen ∧ ∃ S, Texts w b n S := by
  rcases Deep.open_strs Tryd.underlying41 Tryd.underlying9 (by kernel_rfl) h with ⟨hcs, _⟩ | ⟨a, len, cap, m, Sx, hcs, _, hl, hm, hmm, _, hcell⟩
  · simp at hcs
    obtain ⟨rfl, rfl, rfl⟩ := hcs
    exact ⟨Nat.zero_le _, fun _ => ⟨#[]⟩, fun i hi => by omega⟩
  · simp at hcs
    obtain ⟨rfl, rfl, rfl⟩ := hcs
    refine ⟨Nat.le_trans hl hm, Sx, fun i hi => ?_⟩
    have hnm : n ≤ m := by rw [hmm]; split <;> omega
    obtain ⟨h1, h2⟩ := hcell i (by omega)
    have hab : (a.add i).block = a.block := by unfold Addr.add; split <;> rfl
    exact ⟨a, rfl, by rw [← hab]; exact World.block_lt_of_cell? w _ h1, h1, h2⟩
theorem row_at {w : World} {base n : Nat} {e : TypeId} {v : Value} {f : Nat → Value} (h : w.ownsRow base e 1 v n ((List.range n).map f)) : ∃ b c, v = .slice b n c ∧ ∀ j, j < n → ∃ g, b = some ⟨g, 0, none⟩ ∧ g < w.heap.size ∧ w.cell? ⟨g, j, none⟩ = some (f j) := by
  by_cases h0 : n = 0
  · obtain ⟨b, c, rfl⟩ := row_slice h
    exact ⟨b, c, rfl, fun j hj => by omega⟩
  · obtain ⟨g, c, rfl, k⟩ := row_cells h (by intro e; have := congrArg List.length e; simp at this; omega)
    exact ⟨_, c, rfl, fun j hj => ⟨g, rfl, (h.lt g rfl).2, k j _ (by simp [hj])⟩⟩
set_option maxRecDepth 100000 in
/-- What 'few' answers. -/
theorem few_any (b : Option Addr) (n c : Nat) (S : Nat → ByteArray) (w : World) (hn : n ≤ maxLen) (hS : Texts w b n S) :
    Calls Tryd.prog 19 #[.slice b n c] w fun r w' => (∃ B : Bool, r = .returned (.bool B) ∧ (B = true → n ≤ 20 ∧ ∀ i, i < n → (S i).size ≤ 600)) ∧ w = w' := by
  have hn1 := hn
  unfold maxLen at hn1
  have HS := Lib.hid hS
  clear hS
  go_enter Tryd.func19, Tryd.ntmps19
  go_wp2
  go_loopw [3] (fun i wr => ∃ k : Nat, i = .int .i64 k ∧ k ≤ n ∧ k ≤ 30 ∧ Hid (∀ j, j < k → (S j).size ≤ 600) ∧ w = wr) (fun i _ => n - (intOf i).toNat)
  case atStart => exact ⟨0, rfl, Nat.zero_le _, Nat.zero_le _, Lib.hid (fun j hj => by omega), rfl⟩
  case round =>
    obtain ⟨k, rfl, hk, hk30, HJ, rfl⟩ := hrel
    by_cases hlt : k < n
    · by_cases h30 : k < 30
      · obtain ⟨a, rfl, _, hc, hm⟩ := HS.out k hlt
        have hm1 := hm
        unfold maxLen at hm1
        by_cases h600 : (S k).size ≤ 600
        · have HJ' : Hid (∀ j, j < k + 1 → (S j).size ≤ 600) := Lib.hid (fun j hj => (Nat.lt_or_ge j k).elim (HJ.out j) (fun h => by rw [show j = k by omega]; exact h600))
          go_wp2
          go_roundw
          case rel => exact ⟨k + 1, by go_num, by omega, by omega, HJ', by first | trivial | rfl⟩
          case measure => simp [intOf]; omega
        · go_wp2
          go_ret
          exact ⟨⟨false, rfl, by simp⟩, rfl⟩
      · go_wp2
        go_ret
        exact ⟨⟨decide ((n : Int) ≤ 20), rfl, fun h => absurd (of_decide_eq_true h) (by omega)⟩, rfl⟩
    · go_wp2
      go_ret
      exact ⟨⟨decide ((n : Int) ≤ 20), rfl, fun h => ⟨by have := of_decide_eq_true h; omega, fun i hi => HJ.out i (by omega)⟩⟩, rfl⟩
set_option maxRecDepth 100000 in
set_option maxHeartbeats 2000000 in
/-- P4.1 to P4.4, P4.6: the law FrameBack. -/
theorem back_law (b : Option Addr) (n c x : Nat) (S : Nat → ByteArray) (w : World) (hn : n ≤ maxLen) (hx : x < 65536) (hS : Texts w b n S) (hT : Tab w) :
    Calls Tryd.prog 7 #[.slice b n c, .int .u16 x] w fun r w' => r = .returned (.bool true) ∧ Below w.heap.size w w' := by
  obtain ⟨i0, hi, hz0, hz1, hz2⟩ := info_parts info3
  have hn1 := hn
  unfold maxLen at hn1
  have HS := Lib.hid hS
  clear hS
  go_enter Tryd.func7, Tryd.ntmps7
  go_wp2_with fail
  refine (few_any b n c S w hn HS.out).mono ?_
  rintro r w' ⟨⟨B, rfl, hB⟩, rfl⟩
  cases B with
  | false =>
    clear hB
    go_wp2_with fail
    refine (works_any w hT).mono ?_
    rintro r w2 ⟨rfl, hb1⟩
    go_wp2
    go_ret
    exact ⟨rfl, hb1⟩
  | true =>
    obtain ⟨hn20, h600⟩ := hB rfl
    clear hB hn hn1
    obtain ⟨Ls, hLs⟩ : ∃ Ls, Ls = (List.range n).map fun i => (S i).data.toList := ⟨_, rfl⟩
    have hLl : Ls.length = n := by rw [hLs]; simp
    have hLi : ∀ i, i < n → Ls[i]? = some (S i).data.toList := fun i h => by rw [hLs]; simp [h]
    have hL6 : ∀ y ∈ Ls, y.length ≤ 600 := by
      intro y hy
      rw [hLs] at hy
      obtain ⟨i, hi, rfl⟩ := List.mem_map.1 hy
      have := h600 i (List.mem_range.1 hi)
      rwa [size_list] at this
    have hL4 : ∀ y ∈ Ls, y.length ≤ 4096 := fun y hy => Nat.le_trans (hL6 y hy) (by decide)
    have htk : ∀ k, k < n → Ls.take (k + 1) = Ls.take k ++ [(S k).data.toList] := fun k h => by rw [List.take_add_one, hLi k h]; rfl
    obtain ⟨A, hA⟩ : ∃ A : Nat → ByteArray, ∀ k, A k = bs (enc (Ls.take k)) := ⟨fun k => bs (enc (Ls.take k)), fun _ => rfl⟩
    have hA0 : A 0 = ⟨#[]⟩ := by rw [hA]; rfl
    have hAn : ∀ k, k < n → A k ++ bs (fput (S k).data.toList) = A (k + 1) := fun k h => by
      rw [hA, hA, htk k h, enc_snoc, bs_append, bs_toList]
    have hAz : ∀ k, (A k).size = (enc (Ls.take k)).length := fun k => by rw [hA, bs_size]
    have hAb : ∀ k, (A k).size ≤ 12120 := fun k => by
      rw [hAz]
      have h1 := enc_le (Ls.take k) (fun y hy => hL6 y (List.mem_of_mem_take hy))
      have h2 : (Ls.take k).length ≤ 20 := by rw [List.length_take]; omega
      omega
    have HA0 := Lib.hid hA0
    have HAn := Lib.hid hAn
    have HAb := Lib.hid hAb
    have HL := Lib.hid (And.intro hLl (And.intro hLi (And.intro hL4 (And.intro hA hAz))))
    clear hLs hLl hLi hL6 hL4 htk hA hA0 hAn hAz hAb h600
    go_wp2_with fail
    go_loopw [5, 6, 7] (fun s v i wr => ∃ k : Nat, s = .string (A k) ∧ i = .int .i64 k ∧ k ≤ n ∧ wr.ownsRow w.heap.size 3 1 v k ((List.range k).map fun i => Value.int .i64 ((A (i + 1)).size : Nat)) ∧ Below w.heap.size w wr) (fun _ _ i _ => n - (intOf i).toNat)
    case atStart => exact ⟨0, by rw [HA0.out], rfl, Nat.zero_le _, World.ownsRow_nil w _ _ 1, Below.refl _ _⟩
    case round =>
      obtain ⟨k, rfl, rfl, hk, hown, hbel⟩ := hrel
      by_cases hlt : k < n
      · obtain ⟨a, rfl, ha, hc, hm⟩ := texts_below HS.out hbel k hlt
        have hp := lput_any (S k) wr hm (tab_below hT hbel)
        obtain ⟨P, hP⟩ : ∃ P, P = bs (fput (S k).data.toList) := ⟨_, rfl⟩
        have hcat := HAn.out k hlt
        rw [← hP] at hp hcat
        have HP := Lib.hid hp
        have hab := HAb.out (k + 1)
        have hwsz := hbel.size
        have HOW := Lib.hid hown
        have HBE := Lib.hid hbel
        clear hp hP hown hbel
        go_wp2_with fail
        refine HP.out.mono ?_
        rintro r w1 ⟨rfl, hb1⟩
        have hown1 := row_below HOW.out hb1
        have hbel1 := HBE.out.trans (hb1.mono hwsz)
        have hwsz1 := hbel1.size
        have hlen1 : k + 1 ≤ maxLen := by unfold maxLen; omega
        have hlen2 : (k + 1) * 8 ≤ 140737488355328 := by omega
        have HBE1 := Lib.hid hbel1
        obtain ⟨q, hq⟩ : ∃ q, q = (A (k + 1)).size := ⟨_, rfl⟩
        have hcs : (A k).size + P.size ≤ 12120 := by rw [← ByteArray.size_append, hcat]; exact hab
        clear hb1 hbel1 HP HOW hq
        go_wp2_with (at_builtin; refine wpList_append_own _ rfl (.tmp 35) (.tmp 38) 49 rfl w.heap.size 3 i0 (.int .i64 0) 1 8 Tryd.underlying49 hi hz0 hz1 hz2 rfl (by decide) _ _ _ rfl (hown1.alloc _) ⟨w1.heap.size, 0, none⟩ 1 1 [.int .i64 ((A (k + 1)).size : Nat)] rfl rfl (fun j u hu => World.news_of_block (w := w1.alloc (.cells #[.int .i64 ((A (k + 1)).size : Nat)] 3)) (cs := #[.int .i64 ((A (k + 1)).size : Nat)]) (t := 3) (fr := (0, 0)) (heap_alloc_new w1 _) j u hu) (by intro u hu; rw [List.mem_singleton] at hu; rw [hu]; rfl) hlen1 hlen2 (by simp; omega) ?_; intro v' w2 hown2 hgrow2 _)
        have hbel2 := (HBE1.out.alloc hwsz1 (.cells #[.int .i64 ((A (k + 1)).size : Nat)] 3)).grown hgrow2 (by simp; omega) (fun j e => (hown1.lt j e).1)
        go_roundw
        case rel => exact ⟨k + 1, rfl, by go_num, by omega, by rw [List.range_succ, List.map_append]; exact hown2, hbel2⟩
        case measure => simp [intOf]; omega
      · obtain rfl : n = k := by omega
        obtain ⟨hLl, hLi, hL4, hA, hAz⟩ := HL.out
        obtain ⟨kk, hkk⟩ : ∃ kk, kk = x % ((A n).size + 1) := ⟨_, rfl⟩
        have hkle : kk ≤ (A n).size := by rw [hkk]; have := Nat.mod_lt x (show 0 < (A n).size + 1 by omega); omega
        have ekk : (x : Int) % (((A n).size : Int) + 1) = (kk : Int) := by rw [hkk]; simp
        obtain ⟨q, hq⟩ : ∃ q, q = (A n).extract 0 kk := ⟨_, rfl⟩
        have hfull : Ls.take n = Ls := List.take_of_length_le (by omega)
        have hAnl : (A n).data.toList = enc Ls := by rw [hA, bs_toList, hfull]
        have hql : q.data.toList = (enc Ls).take kk := by rw [hq, ex_take, hAnl]
        have hqs : q.size = kk := by rw [size_list, hql, List.length_take, ← hAnl, ← size_list]; omega
        have hkl : kk ≤ (enc Ls).length := by rw [← hAnl, ← size_list]; exact hkle
        obtain ⟨m, hm⟩ : ∃ m, m = cutN Ls kk := ⟨_, rfl⟩
        have hmle : m ≤ n := by rw [hm]; have := cutN_le Ls kk; omega
        obtain ⟨z1, z2, z3⟩ := cut_law Ls kk kk hL4 (Nat.le_refl _) hkl
        have hci : ∀ j, j ≤ n → (A j).size ≤ kk → (j < n → kk < (A (j + 1)).size) → j = m := fun j h1 h2 h3 => by
          rw [hm]; exact (cutN_is Ls j kk hL4 (by omega) (by rw [← hAz]; exact h2) (fun h => by rw [← hAz]; exact h3 (by omega))).symm
        rw [← hm, ← hAz] at z2 z3
        rw [← hm] at z1
        have hsc : ∀ j, j ≤ n → (Ls.take j).map sc = (List.range j).map (fun i => Value.string (S i)) := fun j hj => by
          apply List.ext_getElem?
          intro i
          by_cases hij : i < j
          · rw [List.getElem?_map, List.getElem?_take, if_pos hij, hLi i (by omega), List.getElem?_map, List.getElem?_range hij]
            show some (Value.string (bs (S i).data.toList)) = some (Value.string (S i))
            rw [to_bs]
          · rw [List.getElem?_eq_none (by simp; omega), List.getElem?_eq_none (by simp; omega)]
        have hall := fun W h => all_any q W (by have := HAb.out n; omega) h
        rw [hqs, hql, z1, z2, z3] at hall
        obtain ⟨y1, y2, y3⟩ := cut_law Ls (enc Ls).length (enc Ls).length hL4 (Nat.le_refl _) (Nat.le_refl _)
        have hmn : cutN Ls (enc Ls).length = n := cutN_is Ls n _ hL4 (by omega) (by rw [hfull]; exact Nat.le_refl _) (fun h => by omega)
        rw [hmn, hfull] at y1 y2 y3
        rw [List.take_of_length_le (Nat.le_refl _)] at y1 y2 y3
        rw [if_pos rfl] at y3
        have hwh := fun W h => all_any (A n) W (by have := HAb.out n; omega) h
        rw [hAz n, hfull, hAnl, y1, y2, y3] at hwh
        rw [show (enc Ls).length = (A n).size by rw [hAz, hfull]] at hwh
        rw [hLl] at hwh
        obtain ⟨E, hE⟩ : ∃ E : Int, E = if (A m).size = kk then 0 else 10 := ⟨_, rfl⟩
        rw [← hE] at hall
        have HALL := Lib.hid hall
        have HWH := Lib.hid hwh
        have HCI := Lib.hid hci
        have HE := Lib.hid hE
        have HSC := Lib.hid hsc
        have HLL := Lib.hid hLl
        have hAbn := HAb.out n
        have hqx : (A n).extract 0 kk = q := hq.symm
        have hns : ((A n).size : Int) + 1 ≠ 0 := by omega
        have hEnds := row_at hown
        obtain ⟨b6, c6, rfl, hen⟩ := hEnds
        have HBE := Lib.hid hbel
        have HEN := Lib.hid hen
        clear hall hwh hci hE hsc z1 z2 z3 y1 y2 y3 hmn hfull hLl hLi hL4 hA hAz hkk hq hAnl hql hqs hkl hm hown hbel hen hk hlt
        go_wp2_with fail
        refine (HALL.out wr (tab_below hT HBE.out)).mono ?_
        rintro r w1 ⟨⟨v1, rfl, hown1⟩, hb1⟩
        rw [ekk]
        have hgr := hown1
        rw [HSC.out m hmle, show (Ls.take m).length = m by rw [List.length_take, HLL.out]; omega] at hgr
        obtain ⟨b7, c7, rfl, hgot⟩ := row_at hgr
        have hw1 := HBE.out.trans (hb1.mono HBE.out.size)
        have hen1 : ∀ j, j < n → ∃ g, b6 = some ⟨g, 0, none⟩ ∧ g < w1.heap.size ∧ w1.cell? ⟨g, j, none⟩ = some (.int .i64 ((A (j + 1)).size : Nat)) := fun j hj => by
          obtain ⟨g, h1, h2, h3⟩ := HEN.out j hj
          exact ⟨g, h1, Nat.lt_of_lt_of_le h2 hb1.size, (hb1.cell (p := ⟨g, j, none⟩) h2).trans h3⟩
        have HEN1 := Lib.hid hen1
        have HGOT := Lib.hid hgot
        have HW1 := Lib.hid hw1
        have HT1 := Lib.hid (texts_below HS.out hw1)
        clear hgr hown1 hgot hw1 hen1 hb1 HEN HBE
        go_wp2_with fail
        go_loopw [12, 13] (fun i t wz => ∃ j : Nat, i = .int .i64 j ∧ t = .int .i64 ((A j).size : Nat) ∧ j ≤ n ∧ (A j).size ≤ kk ∧ w1 = wz) (fun i _ _ => n - (intOf i).toNat)
        case atStart => exact ⟨0, rfl, by rw [HA0.out]; rfl, Nat.zero_le _, by rw [HA0.out]; exact Nat.zero_le _, rfl⟩
        case round =>
          obtain ⟨j, rfl, rfl, hj, hjk, rfl⟩ := hrel
          by_cases hlt : j < n
          · obtain ⟨g, rfl, _, hc⟩ := HEN1.out j hlt
            have hab1 := HAb.out (j + 1)
            have hab0 := HAb.out j
            by_cases hk2 : (A (j + 1)).size ≤ kk
            · go_wp2
              go_roundw
              case rel => exact ⟨j + 1, by go_num, rfl, by omega, hk2, by first | trivial | rfl⟩
              case measure => simp [intOf]; omega
            · have hjm := HCI.out j hj hjk (fun _ => by omega)
              subst hjm
              rcases (show (E = 0 ∧ (A j).size = kk) ∨ (E = 10 ∧ (A j).size ≠ kk) by rw [HE.out]; by_cases h : (A j).size = kk; exact .inl ⟨if_pos h, h⟩; exact .inr ⟨if_neg h, h⟩) with ⟨hE0, hjkk⟩ | ⟨hE0, hjkk⟩
              · subst hE0
                go_wp2_with fail
                go_loopw [14] (fun i wz => ∃ p mm : Nat, i = .int .i64 p ∧ p ≤ j ∧ wz = w1.drewN mm) (fun i _ => j - (intOf i).toNat)
                case atStart => exact ⟨0, 0, rfl, Nat.zero_le _, rfl⟩
                case round =>
                  obtain ⟨p, mm, rfl, hp, rfl⟩ := hrel
                  by_cases hpj : p < j
                  · obtain ⟨g7, rfl, _, hc7⟩ := HGOT.out p hpj
                    obtain ⟨a, rfl, _, hc8, hm8⟩ := HT1.out p (by omega)
                    go_wp2_with fail
                    go_quiet (fail)
                    go_wp2
                    go_roundw
                    case rel => exact ⟨p + 1, _, by go_num, by omega, rfl⟩
                    case measure => simp [intOf]; omega
                  · have hwd := bel_drewN HW1.out mm
                    have HWD := Lib.hid hwd
                    clear hwd
                    go_wp2_with fail
                    refine (HWH.out _ (tab_below hT HWD.out)).mono ?_
                    rintro r w3 ⟨⟨v3, rfl, hown3⟩, hb3⟩
                    obtain ⟨b8, c8, rfl⟩ := row_slice hown3
                    have hw3 := HWD.out.trans (hb3.mono HWD.out.size)
                    clear hown3 hb3
                    go_wp2_with fail
                    refine (works_any w3 (tab_below hT hw3)).mono ?_
                    rintro r w4 ⟨rfl, hb4⟩
                    have hw4 := hw3.trans (hb4.mono hw3.size)
                    go_wp2
                    go_ret
                    exact ⟨rfl, hw4⟩
              · subst hE0
                go_wp2_with fail
                go_loopw [14] (fun i wz => ∃ p mm : Nat, i = .int .i64 p ∧ p ≤ j ∧ wz = w1.drewN mm) (fun i _ => j - (intOf i).toNat)
                case atStart => exact ⟨0, 0, rfl, Nat.zero_le _, rfl⟩
                case round =>
                  obtain ⟨p, mm, rfl, hp, rfl⟩ := hrel
                  by_cases hpj : p < j
                  · obtain ⟨g7, rfl, _, hc7⟩ := HGOT.out p hpj
                    obtain ⟨a, rfl, _, hc8, hm8⟩ := HT1.out p (by omega)
                    go_wp2_with fail
                    go_quiet (fail)
                    go_wp2
                    go_roundw
                    case rel => exact ⟨p + 1, _, by go_num, by omega, rfl⟩
                    case measure => simp [intOf]; omega
                  · have hwd := bel_drewN HW1.out mm
                    have HWD := Lib.hid hwd
                    clear hwd
                    go_wp2_with fail
                    refine (HWH.out _ (tab_below hT HWD.out)).mono ?_
                    rintro r w3 ⟨⟨v3, rfl, hown3⟩, hb3⟩
                    obtain ⟨b8, c8, rfl⟩ := row_slice hown3
                    have hw3 := HWD.out.trans (hb3.mono HWD.out.size)
                    clear hown3 hb3
                    go_wp2_with fail
                    refine (works_any w3 (tab_below hT hw3)).mono ?_
                    rintro r w4 ⟨rfl, hb4⟩
                    have hw4 := hw3.trans (hb4.mono hw3.size)
                    go_wp2
                    go_ret
                    exact ⟨rfl, hw4⟩
          · have hjm := HCI.out j hj hjk (fun h => absurd h hlt)
            subst hjm
            obtain rfl : j = n := by omega
            have hjkk : (A j).size = kk := by omega
            have hE0 : E = 0 := by rw [HE.out, if_pos hjkk]
            subst hE0
            go_wp2_with fail
            go_loopw [14] (fun i wz => ∃ p mm : Nat, i = .int .i64 p ∧ p ≤ j ∧ wz = w1.drewN mm) (fun i _ => j - (intOf i).toNat)
            case atStart => exact ⟨0, 0, rfl, Nat.zero_le _, rfl⟩
            case round =>
              obtain ⟨p, mm, rfl, hp, rfl⟩ := hrel
              by_cases hpj : p < j
              · obtain ⟨g7, rfl, _, hc7⟩ := HGOT.out p hpj
                obtain ⟨a, rfl, _, hc8, hm8⟩ := HT1.out p (by omega)
                go_wp2_with fail
                go_quiet (fail)
                go_wp2
                go_roundw
                case rel => exact ⟨p + 1, _, by go_num, by omega, rfl⟩
                case measure => simp [intOf]; omega
              · have hwd := bel_drewN HW1.out mm
                have HWD := Lib.hid hwd
                clear hwd
                go_wp2_with fail
                refine (HWH.out _ (tab_below hT HWD.out)).mono ?_
                rintro r w3 ⟨⟨v3, rfl, hown3⟩, hb3⟩
                obtain ⟨b8, c8, rfl⟩ := row_slice hown3
                have hw3 := HWD.out.trans (hb3.mono HWD.out.size)
                clear hown3 hb3
                go_wp2_with fail
                refine (works_any w3 (tab_below hT hw3)).mono ?_
                rintro r w4 ⟨rfl, hb4⟩
                have hw4 := hw3.trans (hb4.mono hw3.size)
                go_wp2
                go_ret
                exact ⟨rfl, hw4⟩
end Go.Proofs.YtgmnojignnjejaaDoor.Frame
