/- The program's steps (an iterator over the frames of a text) and its All: walked. Condition: the world holds the table. -/
import Derived.RangeFuncNested
import Derived.RangeFuncBound
import Derived.RangeFuncCalls
import Derived.RangeFuncLeaves
import Derived.Shelf.Abstract
import Derived.Shelf.RegionOpen
import Derived.WalkKit
import Derived.OwnWalkIn
import Derived.TacticsInMore
import Derived.LoopNIn
import Derived.LoopIn
import Derived.Maps.AppendAt
import Derived.Test.YtgmnojignnjejaaDoorFrameE
namespace Go.Proofs.YtgmnojignnjejaaDoor.Frame
open Go.RowKit Go.Shelf Go.Proofs.YtgmnojignnjejaaDoor.Crc Go.Proofs.YtgmnojignnjejaaDoor.Codec Go.Proofs.YtgmnojignnjejaaDoor.CrcWalk
attribute [local go_sem] Oper.semAt_some
set_option linter.unusedVariables false
/-- A step: a payload, where its frame ends, or what ends all. -/
abbrev Stp := List UInt8 × Nat × Int
/-- The steps of a text from a on; at most k. -/
def faS : Nat → List UInt8 → Nat → List Stp
  | 0, _, _ => []
  | k + 1, l, a => if l = [] then [] else (fnP l, a + fnU l, fnE l) :: (if fnE l = 0 then faS k (l.drop (fnU l)) (a + fnU l) else [])
def encS (x : Stp) : Value := .agg #[.string (bs x.1), .int .i64 (x.2.1 : Nat), .int .i64 x.2.2]
theorem fn_le (l : List UInt8) : fnU l ≤ l.length := by
  unfold fnU
  by_cases h1 : l.length < 6
  · rw [if_pos h1]; exact Nat.zero_le _
  · rw [if_neg h1]
    by_cases h2 : 4096 < V (l.take 2)
    · rw [if_pos h2]; exact Nat.zero_le _
    · rw [if_neg h2]
      by_cases h3 : l.length - 6 < V (l.take 2)
      · rw [if_pos h3]; exact Nat.zero_le _
      · rw [if_neg h3]
        by_cases h4 : crc 0 (l.take 2 ++ (l.drop 6).take (V (l.take 2))) = V ((l.drop 2).take 4)
        · rw [if_pos h4]; omega
        · rw [if_neg h4]; exact Nat.zero_le _
/-- What a round must keep: the text's box, the table. -/
def Kst (Bn : Nat) (W W' : World) : Prop := (∀ v, Boxed W Bn 9 v → Boxed W' Bn 9 v) ∧ (Tab W → Tab W')
theorem kst_t {Bn : Nat} {A B C : World} (h : Kst Bn A B) (k : Kst Bn B C) : Kst Bn A C := ⟨fun v hv => k.1 v (h.1 v hv), fun t => k.2 (h.2 t)⟩
theorem tab_not {W : World} {l : Nat} {o : Obj} (h : Tab W) (hl : W.heap[l]? = some o) (ho : o.isCells = false) : l ≠ 0 := by
  intro e
  obtain ⟨o', h1, h2⟩ := cells_of_cell (h 0 (by omega))
  rw [← e, hl] at h1; cases h1; rw [h2] at ho; cases ho
theorem kst_b {Bn n : Nat} (W : World) (l : Nat) (o o' : Obj) (_ : n ≤ l) (hl : W.heap[l]? = some o) (ho : o.isCells = false) (_ : o.isWalk = false) : Kst Bn W (W.putObj l o') := by
  constructor
  · intro v hv
    exact hv.kept (grownBy_putObj' W l o') (fun e => by cases e; rw [show W.heap[Bn]? = _ from hv] at hl; cases hl; cases ho)
  · intro hT i hi
    exact cell_kept (hT i hi) (grownBy_putObj' W l o') (fun r e => by cases e; exact ⟨o, hl, ho⟩)
theorem box_below {W W' : World} {B : Nat} {t : TypeId} {v : Value} (h : Boxed W B t v) (hb : Below W.heap.size W W') : Boxed W' B t v := (hb.block B h.lt).trans h
theorem kst_below {Bn : Nat} {W W' : World} (hb : Below W.heap.size W W') : Kst Bn W W' := ⟨fun v hv => box_below hv hb, fun hT => tab_below hT hb⟩
theorem abides_below {β : Type} {B : Nat} {J : β → World → Prop} (h : AbidesFrom B J) {s : β} {W W' : World} (hJ : J s W) (hb : Below W.heap.size W W') : J s W' :=
  h s W W' none hJ ⟨hb.os, hb.tape, hb.output, hb.size, fun k hk _ => hb.block k hk⟩ (fun r e => by cases e)
/-- So many steps were taken; the others are still to come. -/
structure Upto (l : List UInt8) (pre : List Stp) (a k : Nat) : Prop where
  s : faS l.length l 0 = pre ++ faS k (l.drop a) a
  n : a ≤ l.length
  f : l.length - a ≤ k
  c : pre.length ≤ a
theorem Upto.start (l : List UInt8) : Upto l [] 0 l.length := ⟨by simp, Nat.zero_le _, Nat.le_refl _, Nat.le_refl _⟩
theorem Upto.next {l : List UInt8} {pre : List Stp} {a k : Nat} (h : Upto l pre a k) (hlt : a < l.length) (he : fnE (l.drop a) = 0) :
    ∃ k', Upto l (pre ++ [(fnP (l.drop a), a + fnU (l.drop a), (0 : Int))]) (a + fnU (l.drop a)) k' := by
  obtain ⟨k', rfl⟩ : ∃ m, k = m + 1 := ⟨k - 1, by have := h.f; omega⟩
  have hne : l.drop a ≠ [] := by intro e; have := congrArg List.length e; simp at this; omega
  obtain ⟨o1, o2, _⟩ := fn_ok he
  rw [List.length_drop] at o2
  refine ⟨k', ?_, by omega, by have := h.f; omega, by have := h.c; simp; omega⟩
  rw [h.s, faS, if_neg hne, he, if_pos rfl, List.append_assoc, List.drop_drop]; rfl
theorem Upto.pre {l : List UInt8} {pre : List Stp} {a k : Nat} (h : Upto l pre a k) (hlt : a < l.length) : pre ++ [(fnP (l.drop a), a + fnU (l.drop a), fnE (l.drop a))] <+: faS l.length l 0 := by
  obtain ⟨k', rfl⟩ : ∃ m, k = m + 1 := ⟨k - 1, by have := h.f; omega⟩
  have hne : l.drop a ≠ [] := by intro e; have := congrArg List.length e; simp at this; omega
  rw [h.s, faS, if_neg hne]
  exact ⟨_, by rw [List.append_assoc]; rfl⟩
theorem Upto.ends {l : List UInt8} {pre : List Stp} {a k : Nat} (h : Upto l pre a k) (hlt : a < l.length) (he : fnE (l.drop a) ≠ 0) : faS l.length l 0 = pre ++ [(fnP (l.drop a), a + fnU (l.drop a), fnE (l.drop a))] := by
  obtain ⟨k', rfl⟩ : ∃ m, k = m + 1 := ⟨k - 1, by have := h.f; omega⟩
  have hne : l.drop a ≠ [] := by intro e; have := congrArg List.length e; simp at this; omega
  rw [h.s, faS, if_neg hne, if_neg he]
theorem Upto.over {l : List UInt8} {pre : List Stp} {a k : Nat} (h : Upto l pre a k) (hge : a = l.length) : faS l.length l 0 = pre := by
  have h0 : l.drop a = [] := by rw [hge]; simp
  rw [h.s, h0]; cases k <;> simp [faS]
set_option maxRecDepth 100000 in
set_option maxHeartbeats 1000000 in
/-- The iterator: for every loop body that keeps the text's box and the table. -/
theorem steps1_in (n : Nat) (hn : 1 ≤ n) (l Bn : Nat) (s : ByteArray) (hs : s.size ≤ 1000000) (J Jx : List Stp → World → Prop) (B : Nat) (hJ : AbidesFrom B J)
    (hY : ∀ pre x W, J pre W → pre.length < s.size → YieldAt Fence.wide (n - 1) Tryd.prog l #[encS x] W fun e W' =>
      (e = .returned (.bool true) ∧ J (pre ++ [x]) W' ∧ Kst Bn W W') ∨ (e = .returned (.bool false) ∧ Jx (pre ++ [x]) W'))
    (W : World) (hb : Boxed W Bn 9 (.string s)) (hT : Tab W) (h0 : J [] W) :
    CallsIn Fence.wide n Tryd.prog 38 #[.func (.yield l) #[] #[], .pointer (some ⟨Bn, 0, none⟩)] W fun e W' => (∃ v, e = .returned v) ∧
      ((∃ ys, ys = faS s.size s.data.toList 0 ∧ J ys W') ∨ (∃ pre, pre <+: faS s.size s.data.toList 0 ∧ Jx pre W')) := by
  obtain ⟨L, hL⟩ : ∃ L, L = s.data.toList := ⟨_, rfl⟩
  have hlen : s.size = L.length := by rw [hL]; simp
  rw [← hL]
  have hst := Upto.start L
  have HL := Lib.hid hL
  have HLen := Lib.hid hlen
  have HST := Lib.hid hst
  clear hL hlen hst
  have hro : Fence.wide.round = none := rfl
  refine callsIn_of_wp Tryd.func38 rfl trivial ?_ hro
  simp only [Tryd.ntmps38, List.size_toArray, List.length_cons, List.length_nil, Nat.reduceAdd, Nat.reduceSub, Array.replicate_succ, Array.replicate_zero, List.push_toArray, List.append_toArray, List.nil_append, List.cons_append]
  gi_wp2
  gi_loopw [3] (fun i wr => ∃ (pre : List Stp) (a k : Nat), Hid (Upto L pre a k) ∧ a ≤ s.size ∧ i = .int .i64 a ∧ Boxed wr Bn 9 (.string s) ∧ Tab wr ∧ J pre wr) (fun i _ => s.size - (intOf i).toNat)
  case atStart => exact ⟨[], 0, _, HST, Nat.zero_le _, rfl, hb, hT, h0⟩
  case round =>
    obtain ⟨pre, a, k, hU, ha, rfl, hb1, hT1, hJ1⟩ := hrel
    have hc := hb1.cell
    by_cases hlt : a < s.size
    · obtain ⟨q, hq⟩ : ∃ q, q = s.extract a s.size := ⟨_, rfl⟩
      have hql : q.data.toList = L.drop a := by rw [hq, ex_end, HL.out]
      have hqs : q.size ≤ maxLen := by rw [size_list, hql, List.length_drop, ← HLen.out]; unfold maxLen; omega
      have hn := next_any q wr hqs hT1
      rw [hql] at hn
      have ecut : s.extract a s.size = q := hq.symm
      have HN := Lib.hid hn
      clear hn hq hql
      gi_wp2_with fail
      refine ⟨trivial, ?_⟩
      refine (callsIn_wide.2 HN.out).mono ?_
      rintro r w1 ⟨rfl, hb2⟩
      have hb3 := box_below hb1 hb2
      have hT3 := tab_below hT1 hb2
      have hJ3 := abides_below hJ hJ1 hb2
      have hplt : pre.length < s.size := Nat.lt_of_le_of_lt hU.out.c hlt
      have hpre := hU.out.pre (by rw [← HLen.out]; exact hlt)
      have hnx := fun h => hU.out.next (by rw [← HLen.out]; exact hlt) h
      have hend := fun h => hU.out.ends (by rw [← HLen.out]; exact hlt) h
      have hfo := fun h => (fn_ok (l := L.drop a) h).1
      obtain ⟨pp, hpp⟩ : ∃ pp, pp = fnP (L.drop a) := ⟨_, rfl⟩
      obtain ⟨u, hu⟩ : ∃ u, u = fnU (L.drop a) := ⟨_, rfl⟩
      obtain ⟨E, hE⟩ : ∃ E, E = fnE (L.drop a) := ⟨_, rfl⟩
      have huu : u ≤ s.size - a := by rw [hu, HLen.out, ← List.length_drop]; exact fn_le _
      rw [← hpp, ← hu, ← hE] at hpre hend ⊢
      rw [← hpp, ← hu, ← hE] at hnx
      rw [← hu, ← hE] at hfo
      obtain ⟨fn, tmps, assign, body, hy, hR⟩ := hY pre (pp, a + u, E) w1 hJ3 hplt
      dsimp only [encS] at hy
      have HH := Lib.hid (And.intro hpre (And.intro hnx (And.intro hend hfo)))
      have HY := Lib.hid hY
      clear hpre hnx hend hfo hpp hu hE hb2 hb1 hT1 hJ1 hY hJ3 HN hlt
      rw [Int.natCast_add] at hy
      gi_wp2
      refine hR.mono ?_
      rintro e W3 (⟨rfl, hJ3, hk3⟩ | ⟨rfl, hJx3⟩)
      · have hb4 := hk3.1 _ hb3
        have hT4 := hk3.2 hT3
        by_cases he : E = 0
        · subst he
          obtain ⟨k', hU'⟩ := HH.out.2.1 rfl
          have h6 : 6 ≤ u := HH.out.2.2.2 rfl
          have HU' := Lib.hid hU'
          clear hU'
          gi_wp2
          go_roundw
          case rel => exact ⟨pre ++ [(pp, a + u, 0)], a + u, k', HU', by omega, by rw [Int.natCast_add], hb4, hT4, hJ3⟩
          case measure => simp [intOf]; omega
        · have heb : (E != 0) = true := by simpa using he
          gi_wp2
          refine bodyPost_ret (results_none rfl _ _ _) rfl ?_
          exact ⟨⟨_, rfl⟩, .inl ⟨_, by rw [HLen.out]; exact (HH.out.2.2.1 he).symm, hJ3⟩⟩
      · gi_wp2
        refine bodyPost_ret (results_none rfl _ _ _) rfl ?_
        exact ⟨⟨_, rfl⟩, .inr ⟨_, by rw [HLen.out]; exact HH.out.1, hJx3⟩⟩
    · gi_wp2
      go_end0
      exact ⟨⟨_, rfl⟩, .inl ⟨_, by rw [HLen.out]; exact (hU.out.over (by rw [← HLen.out]; omega)).symm, hJ1⟩⟩
set_option maxHeartbeats 1000000 in
/-- 'steps': the text is boxed; the function value captures the box. -/
theorem steps_in (n : Nat) (s : ByteArray) (w : World) :
    CallsIn Fence.wide n Tryd.prog 31 #[.string s] w fun e w' => e = .returned (.func (.func 38) #[] #[.pointer (some ⟨w.heap.size, 0, none⟩)]) ∧ w' = w.alloc (.cells #[.string s] 9) := by
  refine callsIn_of_wp Tryd.func31 rfl trivial ?_ rfl
  simp only [Tryd.ntmps31, List.size_toArray, List.length_cons, List.length_nil, Nat.reduceAdd, Nat.reduceSub, Array.replicate_succ, Array.replicate_zero, List.push_toArray, List.append_toArray, List.nil_append, List.cons_append]
  gi_wp2
  go_ret
  exact ⟨rfl, rfl⟩
/-- 'steps' hands back an iterator: all steps; or a prefix of them, where a round has said 'no more'. -/
theorem steps_stops (n : Nat) (hn : 1 ≤ n) (Bn : Nat) (s : ByteArray) (hs : s.size ≤ 1000000) (w : World) (hb : Boxed w Bn 9 (.string s)) (hT : Tab w) :
    SeqStopsK Fence.wide n Tryd.prog 38 #[.pointer (some ⟨Bn, 0, none⟩)] (fun x : Stp => #[encS x]) (Kst Bn) (fun ys => ys = faS s.size s.data.toList 0) (fun pre => pre <+: faS s.size s.data.toList 0) s.size w := fun l J Jx W hW hJ _ hY h0 =>
  steps1_in n hn l Bn s hs J Jx _ hJ hY W (box_below hb hW) (tab_below hT hW) h0
end Go.Proofs.YtgmnojignnjejaaDoor.Frame
