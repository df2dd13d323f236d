/- All the frames that bytes begin with: plain words, and what the document's All and Same answer: walked. No condition but sizes. -/
import Derived.Test.YtgmnojignnjejaaDoorFrameD
namespace Go.Proofs.YtgmnojignnjejaaDoor.Frame
open Go.RowKit Go.Proofs.YtgmnojignnjejaaDoor.Crc Go.Proofs.YtgmnojignnjejaaDoor.Codec Go.Proofs.YtgmnojignnjejaaDoor.CrcWalk
set_option linter.unusedVariables false
/-- All frames: their payloads, how many bytes they take, what ends them; at most k frames are looked for. -/
def faP : Nat → List UInt8 → List (List UInt8)
  | 0, _ => []
  | k + 1, l => if l = [] then [] else if fnE l = 0 then fnP l :: faP k (l.drop (fnU l)) else []
def faU : Nat → List UInt8 → Nat
  | 0, _ => 0
  | k + 1, l => if l = [] then 0 else if fnE l = 0 then fnU l + faU k (l.drop (fnU l)) else 0
def faE : Nat → List UInt8 → Int
  | 0, _ => 0
  | k + 1, l => if l = [] then 0 else if fnE l = 0 then faE k (l.drop (fnU l)) else fnE l
theorem fn_ok {l : List UInt8} (h : fnE l = 0) : 6 ≤ fnU l ∧ fnU l ≤ l.length ∧ (fnP l).length ≤ 4096 := by
  unfold fnE at h
  unfold fnU fnP
  by_cases h1 : l.length < 6
  · rw [if_pos h1] at h; exact absurd h (by decide)
  · rw [if_neg h1] at h; rw [if_neg h1, if_neg h1]
    by_cases h2 : 4096 < V (l.take 2)
    · rw [if_pos h2] at h; exact absurd h (by decide)
    · rw [if_neg h2] at h; rw [if_neg h2, if_neg h2]
      by_cases h3 : l.length - 6 < V (l.take 2)
      · rw [if_pos h3] at h; exact absurd h (by decide)
      · rw [if_neg h3] at h; rw [if_neg h3, if_neg h3]
        by_cases h4 : crc 0 (l.take 2 ++ (l.drop 6).take (V (l.take 2))) = V ((l.drop 2).take 4)
        · rw [if_pos h4, if_pos h4]; refine ⟨by omega, by omega, by simp; omega⟩
        · rw [if_neg h4] at h; exact absurd h (by decide)
/-- A text as a cell. -/
def sc (p : List UInt8) : Value := .string (bs p)
theorem info9 : (Tryd.prog.info? 9).map (fun i => (i.zero, i.size, i.bytes)) = some (some (.string ⟨#[]⟩), 1, 16) := by kernel_rfl
theorem row_below {w w' : World} {base n size : Nat} {e : TypeId} {v : Value} {xs : List Value} (h : w.ownsRow base e size v n xs) (hb : Below w.heap.size w w') : w'.ownsRow base e size v n xs :=
  h.kept (row := none) ⟨hb.os, hb.tape, hb.output, hb.size, fun k hk _ => hb.block k hk⟩ (by cases v.ownBlock <;> simp)
/-- So many frames were read; the others are still to come. -/
structure Sofar (l : List UInt8) (P : List (List UInt8)) (at_ k : Nat) : Prop where
  p : faP l.length l = P ++ faP k (l.drop at_)
  u : faU l.length l = at_ + faU k (l.drop at_)
  e : faE l.length l = faE k (l.drop at_)
  n : at_ ≤ l.length
  f : l.length - at_ ≤ k
  c : P.length ≤ at_
theorem Sofar.start (l : List UInt8) : Sofar l [] 0 l.length := ⟨rfl, by simp, rfl, Nat.zero_le _, Nat.le_refl _, Nat.le_refl _⟩
theorem Sofar.next {l : List UInt8} {P : List (List UInt8)} {at_ k : Nat} (h : Sofar l P at_ k) (hlt : at_ < l.length) (he : fnE (l.drop at_) = 0) :
    ∃ k', k = k' + 1 ∧ Sofar l (P ++ [fnP (l.drop at_)]) (at_ + fnU (l.drop at_)) k' := by
  obtain ⟨k', rfl⟩ : ∃ m, k = m + 1 := ⟨k - 1, by have := h.f; omega⟩
  have hne : l.drop at_ ≠ [] := by intro e; have := congrArg List.length e; simp at this; omega
  obtain ⟨o1, o2, _⟩ := fn_ok he
  rw [List.length_drop] at o2
  refine ⟨k', rfl, ?_, ?_, ?_, by omega, by have := h.f; omega, by have := h.c; simp; omega⟩
  · rw [h.p, faP, if_neg hne, if_pos he, List.append_assoc, List.drop_drop]; rfl
  · rw [h.u, faU, if_neg hne, if_pos he, List.drop_drop, Nat.add_assoc]
  · rw [h.e, faE, if_neg hne, if_pos he, List.drop_drop]
theorem Sofar.over {l : List UInt8} {P : List (List UInt8)} {at_ k : Nat} (h : Sofar l P at_ k) (hge : at_ = l.length) : faP l.length l = P ∧ faU l.length l = at_ ∧ faE l.length l = 0 := by
  have h0 : l.drop at_ = [] := by rw [hge]; simp
  refine ⟨?_, ?_, ?_⟩
  · rw [h.p, h0]; cases k <;> simp [faP]
  · rw [h.u, h0]; cases k <;> simp [faU]
  · rw [h.e, h0]; cases k <;> simp [faE]
theorem Sofar.ends {l : List UInt8} {P : List (List UInt8)} {at_ k : Nat} (h : Sofar l P at_ k) (hlt : at_ < l.length) (he : fnE (l.drop at_) ≠ 0) : faP l.length l = P ∧ faU l.length l = at_ ∧ faE l.length l = fnE (l.drop at_) := by
  obtain ⟨k', rfl⟩ : ∃ m, k = m + 1 := ⟨k - 1, by have := h.f; omega⟩
  have hne : l.drop at_ ≠ [] := by intro e; have := congrArg List.length e; simp at this; omega
  refine ⟨?_, ?_, ?_⟩
  · rw [h.p, faP, if_neg hne, if_neg he, List.append_nil]
  · rw [h.u, faU, if_neg hne, if_neg he, Nat.add_zero]
  · rw [h.e, faE, if_neg hne, if_neg he]
set_option maxRecDepth 100000 in
set_option maxHeartbeats 1000000 in
/-- What the document's 'All' answers. -/
theorem rall_any (s : ByteArray) (w : World) (hs : s.size ≤ 1000000) :
    Calls Tryd.prog 17 #[.string s] w fun r w' => (∃ v, r = .returned (.tuple #[v, .int .i64 (faU s.size s.data.toList : Nat), .int .i64 (faE s.size s.data.toList)]) ∧ w'.ownsRow w.heap.size 9 1 v (faP s.size s.data.toList).length ((faP s.size s.data.toList).map sc)) ∧ Below w.heap.size w w' := by
  obtain ⟨i0, hi, hz0, hz1, hz2⟩ := info_parts info9
  obtain ⟨l, hl⟩ : ∃ l, l = s.data.toList := ⟨_, rfl⟩
  have hlen : s.size = l.length := by rw [hl]; simp
  have hsl : s.size ≤ 1000000 := hs
  rw [← hl]
  have hst := Sofar.start l
  rw [← hlen] at hst
  have HL := Lib.hid hl
  have HLen := Lib.hid hlen
  have HST := Lib.hid hst
  clear hl hlen hst
  go_enter Tryd.func17, Tryd.ntmps17
  go_wp2
  go_loopw [5, 6] (fun v i wr => ∃ (P : List (List UInt8)) (a k : Nat), Hid (Sofar l P a k) ∧ a ≤ s.size ∧ P.length ≤ 1000000 ∧ i = .int .i64 a ∧ wr.ownsRow w.heap.size 9 1 v P.length (P.map sc) ∧ Below w.heap.size w wr) (fun _ i _ => s.size - (intOf i).toNat)
  case atStart => exact ⟨[], 0, _, Lib.hid (Sofar.start l), Nat.zero_le _, by simp, rfl, World.ownsRow_nil w _ _ 1, Below.refl _ _⟩
  case round =>
    obtain ⟨P, a, k, hS, ha, hP, rfl, hown, hbel⟩ := hrel
    by_cases hlt : a < s.size
    · obtain ⟨q, hq⟩ : ∃ q, q = s.extract a s.size := ⟨_, rfl⟩
      have hql : q.data.toList = l.drop a := by rw [hq, ex_end, HL.out]
      have hqs : q.size ≤ maxLen := by rw [size_list, hql, List.length_drop, ← HLen.out]; unfold maxLen; omega
      have hn := fun W => rnext_any q W hqs
      rw [hql] at hn
      have ecut : s.extract a s.size = q := hq.symm
      have HN := Lib.hid hn
      clear hn hq hql
      have hwsz := hbel.size
      by_cases he : fnE (l.drop a) = 0
      · obtain ⟨k', hk', hS'⟩ := Sofar.next hS.out (by rw [← HLen.out]; exact hlt) he
        obtain ⟨o1, o2, o3⟩ := fn_ok he
        rw [List.length_drop, ← HLen.out] at o2
        have hNe := HN.out
        rw [he] at hNe
        have HNe := Lib.hid hNe
        have HS' := Lib.hid hS'
        obtain ⟨pp, hpp⟩ : ∃ pp, pp = fnP (l.drop a) := ⟨_, rfl⟩
        obtain ⟨u, hu⟩ : ∃ u, u = fnU (l.drop a) := ⟨_, rfl⟩
        rw [← hpp, ← hu] at HNe HS'
        rw [← hu] at o1 o2
        have hPl : P.length ≤ a := hS.out.c
        have hlen1 : P.length + 1 ≤ maxLen := by unfold maxLen; omega
        have hlen2 : (P.length + 1) * 16 ≤ 140737488355328 := by omega
        clear hNe hS' hpp hu hk' he o3
        go_wp2_with fail
        refine (HNe.out wr).mono ?_
        rintro r w1 ⟨rfl, hb1⟩
        have hown1 := row_below hown hb1
        have hbel1 := hbel.trans (hb1.mono hwsz)
        have hwsz1 := hbel1.size
        have HS2 := Lib.hid hbel1
        clear hb1 hbel1 hbel hown
        go_wp2_with (at_builtin; refine wpList_append_own _ rfl (.tmp 27) (.tmp 29) 41 rfl w.heap.size 9 i0 (.string ⟨#[]⟩) 1 16 Tryd.underlying41 hi hz0 hz1 hz2 rfl (by decide) _ _ _ rfl (hown1.alloc _) ⟨w1.heap.size, 0, none⟩ 1 1 [sc pp] rfl rfl (fun j u hu => World.news_of_block (w := w1.alloc (.cells #[sc pp] 9)) (cs := #[sc pp]) (t := 9) (fr := (0, 0)) (heap_alloc_new w1 _) j u hu) (by intro u hu; rw [List.mem_singleton] at hu; rw [hu]; rfl) hlen1 (by omega) (by simp; omega) ?_; intro v' w2 hown2 hgrow2 _)
        have hbel2 := (HS2.out.alloc hwsz1 (.cells #[sc pp] 9)).grown hgrow2 (by simp; omega) (fun j e => (hown1.lt j e).1)
        go_roundw
        case rel => exact ⟨P ++ [pp], a + u, k', HS', by omega, by simp; omega, by go_num, by simpa using hown2, hbel2⟩
        case measure => simp [intOf]; omega
      · obtain ⟨o1, o2, o3⟩ := hS.out.ends (by rw [← HLen.out]; exact hlt) he
        have hNe := HN.out
        obtain ⟨E, hE⟩ : ∃ E, E = fnE (l.drop a) := ⟨_, rfl⟩
        rw [← hE] at hNe he o3
        have HNe := Lib.hid hNe
        rw [← HLen.out] at o1 o2 o3
        have hEb : (E != 0) = true := by simpa using he
        clear hNe hE he
        have HO := Lib.hid (And.intro o1 (And.intro o2 o3))
        clear o1 o2 o3
        go_wp2_with fail
        refine (HNe.out wr).mono ?_
        rintro r w1 ⟨rfl, hb1⟩
        have hown1 := row_below hown hb1
        have hbel1 := hbel.trans (hb1.mono hwsz)
        clear hb1 hbel hown
        have HBE := Lib.hid hbel1
        have HOW := Lib.hid hown1
        clear hbel1 hown1
        go_wp2
        go_ret3
        rw [HO.out.1, HO.out.2.1, HO.out.2.2]
        exact ⟨⟨_, rfl, by simpa using HOW.out⟩, HBE.out⟩
    · obtain ⟨o1, o2, o3⟩ := hS.out.over (by rw [← HLen.out]; omega)
      rw [← HLen.out] at o1 o2 o3
      have HO := Lib.hid (And.intro o1 (And.intro o2 o3))
      have HBE := Lib.hid hbel
      have HOW := Lib.hid hown
      clear o1 o2 o3 hbel hown
      go_wp2
      go_ret3
      rw [HO.out.1, HO.out.2.1, HO.out.2.2]
      exact ⟨⟨_, rfl, by simpa using HOW.out⟩, HBE.out⟩
theorem row_slice {w : World} {base n size : Nat} {e : TypeId} {v : Value} {xs : List Value} (h : w.ownsRow base e size v n xs) : ∃ b c, v = .slice b n c := by
  rcases h.2 with ⟨rfl, rfl⟩ | ⟨g, cap, cur, rfl, _⟩
  · exact ⟨_, _, rfl⟩
  · exact ⟨_, _, rfl⟩
theorem row_cells {w : World} {base n size : Nat} {e : TypeId} {v : Value} {xs : List Value} (h : w.ownsRow base e size v n xs) (hn : xs ≠ []) : ∃ g c, v = .slice (some ⟨g, 0, none⟩) n c ∧ ∀ j u, xs[j]? = some u → w.cell? ⟨g, j, none⟩ = some u := by
  have hh := h
  rcases h.2 with ⟨rfl, rfl⟩ | ⟨g, cap, cur, rfl, _⟩
  · exact absurd (List.length_eq_zero_iff.1 (by rw [h.1]; simp)) hn
  · refine ⟨g, cap, rfl, fun j u hu => ?_⟩
    have hc := hh.cells (g := g) rfl j u hu
    have hadd : (⟨g, 0, none⟩ : Addr).add j = ⟨g, j, none⟩ := by unfold Addr.add; split <;> simp_all
    rwa [hadd] at hc
/-- What the document's 'Same' answers of two equal rows. -/
theorem rsame_eq (v1 v2 : Value) (B1 B2 : Nat) (P : List (List UInt8)) (w : World) (hP : P.length ≤ 1000000) (h1 : w.ownsRow B1 9 1 v1 P.length (P.map sc)) (h2 : w.ownsRow B2 9 1 v2 P.length (P.map sc)) :
    Calls Tryd.prog 18 #[v1, v2] w fun r w' => r = .returned (.bool true) ∧ Below w.heap.size w w' := by
  by_cases hP0 : P = []
  · obtain ⟨b1, c1, rfl⟩ := row_slice h1
    obtain ⟨b2, c2, rfl⟩ := row_slice h2
    subst hP0
    clear h1 h2
    go_enter Tryd.func18, Tryd.ntmps18
    go_wp2
    go_loopw [5] (fun i wr => i = .int .i64 0 ∧ w = wr) (fun _ _ => 0)
    case atStart => exact ⟨rfl, rfl⟩
    case round =>
      obtain ⟨rfl, rfl⟩ := hrel
      go_wp2
      go_ret
      exact ⟨rfl, Below.refl _ _⟩
  · obtain ⟨g1, c1, rfl, k1⟩ := row_cells h1 (by simpa using hP0)
    obtain ⟨g2, c2, rfl, k2⟩ := row_cells h2 (by simpa using hP0)
    clear h1 h2
    have K1 := Lib.hid k1
    have K2 := Lib.hid k2
    obtain ⟨n, hn⟩ : ∃ n, n = P.length := ⟨_, rfl⟩
    rw [← hn] at hP ⊢
    have HN := Lib.hid hn
    clear k1 k2 hn
    go_enter Tryd.func18, Tryd.ntmps18
    go_wp2
    go_loopw [5] (fun i wr => ∃ k m : Nat, i = .int .i64 k ∧ k ≤ n ∧ wr = w.drewN m) (fun i _ => n - (intOf i).toNat)
    case atStart => exact ⟨0, 0, rfl, Nat.zero_le _, rfl⟩
    case round =>
      obtain ⟨k, m, rfl, hk, rfl⟩ := hrel
      by_cases hlt : k < n
      · obtain ⟨p, hp⟩ : ∃ p, (P.map sc)[k]? = some (Value.string p) := ⟨_, by rw [List.getElem?_map, List.getElem?_eq_getElem (by rw [← HN.out]; exact hlt)]; rfl⟩
        have e1 := K1.out k _ hp
        have e2 := K2.out k _ hp
        clear hp
        go_wp2
        go_quiet (fail)
        go_wp2
        go_roundw
        case rel => exact ⟨k + 1, _, by go_num, by omega, rfl⟩
        case measure => simp [intOf]; omega
      · go_wp2
        go_ret
        exact ⟨rfl, bel_drewN (Below.refl _ _) _⟩
end Go.Proofs.YtgmnojignnjejaaDoor.Frame
