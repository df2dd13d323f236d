/- What 'fields' does by a pass: out of the skeletons of its walk. No conditions. -/
import Derived.Test.YtdgbililgkhjfaaDoorPkG
namespace Go.Proofs.YtdgbililgkhjfaaDoor.Pk
open Go.RowKit Go.Proofs.YtdgbililgkhjfaaDoor.Crc Go.Proofs.YtdgbililgkhjfaaDoor.Codec Go.Proofs.YtdgbililgkhjfaaDoor.CrcWalk
set_option linter.unusedVariables false
theorem grow_length (l : List UInt8) (n : Nat) : (grow l n).length = n := by
  unfold grow
  by_cases h : n = l.length
  · rw [if_pos h, h]
  · rw [if_neg h, List.length_replicate]
theorem grow_zero (l : List UInt8) : grow l 0 = [] := List.eq_nil_of_length_eq_zero (grow_length l 0)
/-- The skeletons of the walk, all of them. -/
structure Sks (fb fl fm : Nat) : Prop where
  s0 : Sk0 fb fl fm
  s1 : Sk1 1 [5] fb fl fm
  s2 : Sk1 2 [5] fb fl fm
  s3z : SkZ 3 7 93 fb fl fm
  s3 : SkL 3 7 93 1 fb fl fm
  s4z : SkZ 4 8 94 fb fl fm
  s4 : SkL 4 8 94 2 fb fl fm
  s5 : Sk1 5 [9, 10] fb fl fm
section
variable {σ : Type} {x : Ps σ} {I : (Nat → Prop) → σ → World → Prop} {rm : σ → Nat → Prop} {T : TypeId} {v : Value} {fb fl fm : Nat} {S : Nat → Prop} {q : Nat} {w wx W : World} {ks : K × σ} {vi vp : Value}
theorem Pass.mets (P : Pass x I rm T v fb fl fm) : Mets T v fb fl fm := ⟨P.nb, P.mb, P.nl, P.ml, P.nm, P.mm⟩
theorem St.kind (h : St I S q w ks vi vp wx) : wx.cell? ⟨q, 0, none⟩ = some (.int .i64 ks.1.kind) := h.2.1.cell _ rfl
theorem Pass.head (P : Pass x I rm T v fb fl fm) (hk : ks.1.wf) (hr : rm ks.2 25) (hq : S q) : Head q v fb fl ks.1.kind (St I S q w ks vi vp) (St I S q w (x.player ks) vi vp) (St I S q w (x.three (x.player ks)) vi vp) where
  d0 := fun _ h => h.drew P
  h1 := fun _ h => P.c_player hk (P.rmono hr (by decide)) hq h
  h2 := fun _ _ h hp => P.c_three (P.w_player hk) (P.r_player (n := 24) hr) hq h hp.1 hp.2
  kd := fun _ h => h.kind
theorem Fields.mono {R R' : World → Prop} (h : Fields q T v w R) (hR : ∀ W, R W → R' W) : Fields q T v w R' := Calls.mono h fun _ _ hh => ⟨hh.1, hR _ hh.2⟩
theorem Pass.mid1 (P : Pass x I rm T v fb fl fm) (hk : ks.1.wf) (hr : rm ks.2 9) (hq : S q) {b : Option Addr} {c n : Nat} (hl : ks.1.ins.length ≤ 32) (hn : (x.m (x.first ks).2 ks.1.ins.length).1 = n) (hn2 : n < 256) :
    Mid q 7 v fl fm b ks.1.ins.length c n (St I S q w ks (.slice b ks.1.ins.length c) vp) (St I S q w (x.first ks) (.slice b ks.1.ins.length c) vp) (St I S q w ((x.first ks).1, (x.m (x.first ks).2 ks.1.ins.length).2) (.slice b ks.1.ins.length c) vp) where
  h3 := fun _ _ h hp => P.c_first hk (P.rmono hr (by decide)) hq h hp.1 hp.2
  d3 := fun _ h => h.drew P
  c3 := fun _ h => h.2.1.cell _ rfl
  h4 := fun _ h => by
    have := P.c_many ks.1.ins.length (by omega) (P.r_first (n := 1) hr) h hq
    rw [hn] at this; exact this
  c4 := fun _ h => h.2.1.cell _ rfl
  l4 := hl
  n4 := hn2
theorem Pass.mid2 (P : Pass x I rm T v fb fl fm) (hk : ks.1.wf) (hr : rm ks.2 9) (hq : S q) {b : Option Addr} {c n : Nat} (hl : ks.1.prs.length ≤ 32) (hn : (x.m (x.first ks).2 ks.1.prs.length).1 = n) (hn2 : n < 256) :
    Mid q 8 v fl fm b ks.1.prs.length c n (St I S q w ks vi (.slice b ks.1.prs.length c)) (St I S q w (x.first ks) vi (.slice b ks.1.prs.length c)) (St I S q w ((x.first ks).1, (x.m (x.first ks).2 ks.1.prs.length).2) vi (.slice b ks.1.prs.length c)) where
  h3 := fun _ _ h hp => P.c_first hk (P.rmono hr (by decide)) hq h hp.1 hp.2
  d3 := fun _ h => h.drew P
  c3 := fun _ h => h.2.1.cell _ rfl
  h4 := fun _ h => by
    have := P.c_many ks.1.prs.length (by omega) (P.r_first (n := 1) hr) h hq
    rw [hn] at this; exact this
  c4 := fun _ h => h.2.1.cell _ rfl
  l4 := hl
  n4 := hn2
theorem St.set7 (P : Pass x I rm T v fb fl fm) (hq : S q) (h : St I S q w ks vi vp wx) (u : Value) : St I S q w ks u vp (wx.setCell ⟨q, 7, none⟩ u) :=
  ⟨P.far h.1 hq, h.2.1.set (off := 7) u, h.2.2.trans ⟨rfl, rfl, rfl, by simp [World.setCell], fun k hk => by
    show (wx.heap.modify q _)[k]? = _
    rw [Array.getElem?_modify, if_neg (fun e => hk.2 e.symm)]⟩⟩
theorem St.set8 (P : Pass x I rm T v fb fl fm) (hq : S q) (h : St I S q w ks vi vp wx) (u : Value) : St I S q w ks vi u (wx.setCell ⟨q, 8, none⟩ u) :=
  ⟨P.far h.1 hq, h.2.1.set (off := 8) u, h.2.2.trans ⟨rfl, rfl, rfl, by simp [World.setCell], fun k hk => by
    show (wx.heap.modify q _)[k]? = _
    rw [Array.getElem?_modify, if_neg (fun e => hk.2 e.symm)]⟩⟩
theorem ins_nil (w : World) : Ins w (.slice none 0 0) [] := ⟨none, 0, rfl, by decide, fun i h => absurd h (Nat.not_lt_zero _)⟩
theorem prs_nil (w : World) : Prs w (.slice none 0 0) [] := ⟨none, 0, rfl, by decide, fun i h => absurd h (Nat.not_lt_zero _)⟩
/-- Blocks S alone may have changed, and new ones come. -/
def Off (S : Nat → Prop) (w W : World) : Prop := w.heap.size ≤ W.heap.size ∧ ∀ k, k < w.heap.size → ¬ S k → W.heap[k]? = w.heap[k]?
/-- What fields leave: the lists stay where C holds, whatever becomes of the blocks S. -/
def Got (I : (Nat → Prop) → σ → World → Prop) (S : Nat → Prop) (q : Nat) (w : World) (C : World → Prop) (ks : K × σ) (wx : World) : Prop :=
  ∃ vi' vp', St I S q w ks vi' vp' wx ∧ (∀ W, C W → Off S wx W → Ins W vi' ks.1.ins) ∧ (∀ W, C W → Off S wx W → Prs W vp' ks.1.prs)
variable {C : World → Prop}
theorem LSt.got1 (P : Pass x I rm T v fb fl fm) {n c : Nat} {g : Nat} {E : TypeId} {F : List UInt8 × σ} {k : K} (hn : n ≤ 1000000) (h : LSt x I rm S q g n c 1 E w (pc k (.slice (some ⟨g, 0, none⟩) n c) vp) F n wx) (hgS : ¬ S g) (hp : ∀ W, C W → Prs W vp k.prs) : Got I S q w C ({ k with ins := F.1 }, F.2) wx := by
  obtain ⟨don, rest, st', h1, h2, h3, h4, h5, h6, h7, h8⟩ := h
  have hr : rest = [] := List.eq_nil_of_length_eq_zero (by omega)
  subst hr
  have e1 : F.1 = don := by rw [h3]; simp [Ps.bs]
  have e2 : F.2 = st' := by rw [h3]; simp [Ps.bs]
  rw [List.append_nil] at h7
  refine ⟨.slice (some ⟨g, 0, none⟩) n c, vp, ⟨?_, h6, h8⟩, fun W _ ho => ?_, fun W hc _ => hp W hc⟩
  · rw [e2]; exact P.more h5 (Below.refl _ wx) fun k hk => .inl (.inl hk)
  · rw [e1]; exact rw_ins (h7.keep (ho.2 g h7.lt hgS)) h1.symm hn
theorem LSt.got2 (P : Pass x I rm T v fb fl fm) {n c : Nat} {g : Nat} {E : TypeId} {F : List UInt8 × σ} {k : K} (hn : n ≤ 1000000) (h : LSt x I rm S q g n c 2 E w (pc k vi (.slice (some ⟨g, 0, none⟩) n c)) F (n * 2) wx) (hgS : ¬ S g) (hi : ∀ W, C W → Ins W vi k.ins) : Got I S q w C ({ k with prs := unflat F.1 }, F.2) wx := by
  obtain ⟨don, rest, st', h1, h2, h3, h4, h5, h6, h7, h8⟩ := h
  have hr : rest = [] := List.eq_nil_of_length_eq_zero (by omega)
  subst hr
  have e1 : F.1 = don := by rw [h3]; simp [Ps.bs]
  have e2 : F.2 = st' := by rw [h3]; simp [Ps.bs]
  rw [List.append_nil] at h7
  obtain ⟨u1, u2⟩ := flat_unflat n don (by omega)
  refine ⟨vi, .slice (some ⟨g, 0, none⟩) n c, ⟨?_, h6, h8⟩, fun W hc _ => hi W hc, fun W _ ho => ?_⟩
  · rw [e2]; exact P.more h5 (Below.refl _ wx) fun k hk => .inl (.inl hk)
  · rw [e1]
    exact rw_prs (E := E) (by rw [u1]; exact h7.keep (ho.2 g h7.lt hgS)) u2.symm hn
theorem LSt.kept {n c sz : Nat} {g : Nat} {E : TypeId} {F : List UInt8 × σ} {cs : Array Value} {m : Nat} (h : LSt x I rm S q g n c sz E w cs F m wx) : Ks (fun j => S j ∧ j ≠ q) w wx := by
  obtain ⟨_, _, _, _, _, _, _, _, _, _, h8⟩ := h
  exact h8
/-- The kind's lists of inputs. -/
theorem Pass.kind3 (sk : Sks fb fl fm) (P : Pass x I rm T v fb fl fm) (hm33 : ∀ st n, n ≤ 32 → (x.m st n).1 ≤ 33) (hC : ∀ W, Ks (fun j => S j ∧ j ≠ q) w W → C W) (hk : ks.1.wf) (hr : rm ks.2 200) (hq : S q) {b : Option Addr} {c : Nat} (h : St I S q w ks (.slice b ks.1.ins.length c) vp w) (hkd : ks.1.kind = 3)
    (hl : ks.1.ins.length ≤ 32) (hI : ∀ W, C W → Ins W (.slice b ks.1.ins.length c) ks.1.ins) (hI' : ∀ W, C W → Prs W vp ks.1.prs) (hz : (∀ st n, (x.m st n).1 = n) ∨ (ks.1.ins = [] ∧ b = none ∧ c = 0)) :
    Fields q T v w (Got I S q w C (x.inputs (x.first (x.three (x.player ks))))) := by
  have hH := P.head (w := w) (vi := .slice b ks.1.ins.length c) (vp := vp) hk (P.rmono hr (by decide)) hq
  rw [hkd] at hH
  have hk2 := P.w_three (P.w_player hk)
  have hr2 : rm (x.three (x.player ks)).2 175 := P.r_three (P.r_player hr)
  have hi2 : (x.three (x.player ks)).1.ins = ks.1.ins := rfl
  obtain ⟨k2, e2⟩ : ∃ k2, k2 = x.three (x.player ks) := ⟨_, rfl⟩
  rw [← e2] at hH hk2 hr2 hi2 ⊢
  rw [← hi2] at h hl hI hz hH
  have hj2 : k2.1.prs = ks.1.prs := by rw [e2]; rfl
  rw [← hj2] at hI'
  obtain ⟨n, hn⟩ : ∃ n, n = (x.m (x.first k2).2 k2.1.ins.length).1 := ⟨_, rfl⟩
  have hn33 : n ≤ 33 := by rw [hn]; exact hm33 _ _ hl
  have hM := P.mid1 (w := w) (vp := vp) (b := b) (c := c) hk2 (P.rmono hr2 (by decide)) hq hl hn.symm (by omega)
  have hr4 : rm (x.m (x.first k2).2 k2.1.ins.length).2 166 := P.rM _ (P.r_first hr2)
  have hin : x.inputs (x.first k2) = ({ (x.first k2).1 with ins := (x.bs (x.m (x.first k2).2 k2.1.ins.length).2 (grow k2.1.ins n)).1 }, (x.bs (x.m (x.first k2).2 k2.1.ins.length).2 (grow k2.1.ins n)).2) := by rw [hn]; rfl
  by_cases h0 : n = 0
  · subst h0
    rw [grow_zero] at hin
    refine (sk.s3z q T v b _ c _ _ _ _ _ (St I S q w ((x.first k2).1, (x.m (x.first k2).2 k2.1.ins.length).2) (.slice none 0 0) vp) w P.mets hH hM ?_ ?_ h).mono ?_
    · intro W h4
      refine (grown1_zero _ W).mono fun r W' ⟨hr, hw⟩ => ?_
      subst hw
      exact ⟨hr, h4.2.1.cell _ rfl, h4.2.1.free, h4.set7 P hq _⟩
    · exact fun W h5 => h5.2.1.cell _ rfl
    · intro W h5
      rw [hin]
      exact ⟨.slice none 0 0, vp, h5, fun W _ _ => ins_nil W, fun W hc _ => hI' W hc⟩
  · have hgl : (grow k2.1.ins n).length = n * 1 := by rw [grow_length, Nat.mul_one]
    refine (sk.s3 q T v b _ c n _ _ _ _ _ (Got I S q w C (x.inputs (x.first k2))) (fun g c' m W => LSt x I rm S q g n c' 1 42 w (pc (x.first k2).1 (.slice (some ⟨g, 0, none⟩) n c') vp) (x.bs (x.m (x.first k2).2 k2.1.ins.length).2 (grow k2.1.ins n)) m W ∧ g ≠ q ∧ ¬ S g) w P.mets hH hM ?_ ?_ ?_ ?_ ?_ h)
    · intro W h4
      refine (grown1_any b c n k2.1.ins W (hI W (hC W h4.2.2)) (by omega) ?_ (by omega)).mono fun r W' ⟨⟨g, c', he, hg, hR⟩, hB⟩ => ?_
      · rcases hz with hz | hz
        · exact .inl (hn.trans (hz _ _))
        · exact .inr hz
      · have hrow := St.row1 P hq h4 hB hg hR hgl (P.rmono hr4 (by rw [grow_length]; omega)) 7 (.slice (some ⟨g, 0, none⟩) n c')
        have hbq : Blk W' q _ _ := (hB.block q (P.lt h4.1 hq)).trans h4.2.1
        have hql := P.lt h4.1 hq
        obtain ⟨cur, _, hc1, hc2, _⟩ := hR
        exact ⟨g, c', he, hc1, hc2, hbq.cell _ rfl, hbq.free, hrow, by omega, fun hs => by have := P.lt h4.1 hs; omega⟩
    · rintro g c' m W ⟨h5, _, _⟩
      obtain ⟨_, _, _, _, _, _, _, _, hb, ⟨_, _, h1, h2, _⟩, _⟩ := h5
      exact ⟨h1, h2, hb.cell _ rfl⟩
    · rintro g c' m W ⟨h5, h6⟩
      exact ⟨h5.drew P, h6⟩
    · rintro g c' m W ⟨h5, h6, h7⟩ hm
      exact Calls.mono (h5.byte P h6 h7 hq hm) fun r W' hh => ⟨hh.1, hh.2, h6, h7⟩
    · rintro g c' W ⟨h5, _, hgS⟩
      rw [hin]
      rw [Nat.mul_one] at h5
      exact LSt.got1 P (by omega) h5 hgS hI'
/-- The kind's lists of pairs. -/
theorem Pass.kind4 (sk : Sks fb fl fm) (P : Pass x I rm T v fb fl fm) (hm33 : ∀ st n, n ≤ 32 → (x.m st n).1 ≤ 33) (hC : ∀ W, Ks (fun j => S j ∧ j ≠ q) w W → C W) (hk : ks.1.wf) (hr : rm ks.2 200) (hq : S q) {b : Option Addr} {c : Nat} (h : St I S q w ks vi (.slice b ks.1.prs.length c) w) (hkd : ks.1.kind = 4)
    (hl : ks.1.prs.length ≤ 32) (hI : ∀ W, C W → Prs W (.slice b ks.1.prs.length c) ks.1.prs) (hI' : ∀ W, C W → Ins W vi ks.1.ins) (hz : (∀ st n, (x.m st n).1 = n) ∨ (ks.1.prs = [] ∧ b = none ∧ c = 0)) :
    Fields q T v w (Got I S q w C (x.pairs (x.first (x.three (x.player ks))))) := by
  have hH := P.head (w := w) (vi := vi) (vp := .slice b ks.1.prs.length c) hk (P.rmono hr (by decide)) hq
  rw [hkd] at hH
  have hk2 := P.w_three (P.w_player hk)
  have hr2 : rm (x.three (x.player ks)).2 175 := P.r_three (P.r_player hr)
  have hi2 : (x.three (x.player ks)).1.prs = ks.1.prs := rfl
  obtain ⟨k2, e2⟩ : ∃ k2, k2 = x.three (x.player ks) := ⟨_, rfl⟩
  rw [← e2] at hH hk2 hr2 hi2 ⊢
  rw [← hi2] at h hl hI hz hH
  have hj2 : k2.1.ins = ks.1.ins := by rw [e2]; rfl
  rw [← hj2] at hI'
  obtain ⟨n, hn⟩ : ∃ n, n = (x.m (x.first k2).2 k2.1.prs.length).1 := ⟨_, rfl⟩
  have hn33 : n ≤ 33 := by rw [hn]; exact hm33 _ _ hl
  have hM := P.mid2 (w := w) (vi := vi) (b := b) (c := c) hk2 (P.rmono hr2 (by decide)) hq hl hn.symm (by omega)
  have hr4 : rm (x.m (x.first k2).2 k2.1.prs.length).2 166 := P.rM _ (P.r_first hr2)
  have hin : x.pairs (x.first k2) = ({ (x.first k2).1 with prs := unflat (x.bs (x.m (x.first k2).2 k2.1.prs.length).2 (grow (flat k2.1.prs) (2 * n))).1 }, (x.bs (x.m (x.first k2).2 k2.1.prs.length).2 (grow (flat k2.1.prs) (2 * n))).2) := by rw [hn]; rfl
  by_cases h0 : n = 0
  · subst h0
    rw [Nat.mul_zero, grow_zero] at hin
    refine (sk.s4z q T v b _ c _ _ _ _ _ (St I S q w ((x.first k2).1, (x.m (x.first k2).2 k2.1.prs.length).2) vi (.slice none 0 0)) w P.mets hH hM ?_ ?_ h).mono ?_
    · intro W h4
      refine (grown2_zero _ W).mono fun r W' ⟨hr, hw⟩ => ?_
      subst hw
      exact ⟨hr, h4.2.1.cell _ rfl, h4.2.1.free, h4.set8 P hq _⟩
    · exact fun W h5 => h5.2.1.cell _ rfl
    · intro W h5
      rw [hin]
      exact ⟨vi, .slice none 0 0, h5, fun W hc _ => hI' W hc, fun W _ _ => prs_nil W⟩
  · have hgl : (grow (flat k2.1.prs) (2 * n)).length = n * 2 := by rw [grow_length, Nat.mul_comm]
    refine (sk.s4 q T v b _ c n _ _ _ _ _ (Got I S q w C (x.pairs (x.first k2))) (fun g c' m W => LSt x I rm S q g n c' 2 44 w (pc (x.first k2).1 vi (.slice (some ⟨g, 0, none⟩) n c')) (x.bs (x.m (x.first k2).2 k2.1.prs.length).2 (grow (flat k2.1.prs) (2 * n))) m W ∧ g ≠ q ∧ ¬ S g) w P.mets hH hM ?_ ?_ ?_ ?_ ?_ h)
    · intro W h4
      refine (grown2_any b c n k2.1.prs W (hI W (hC W h4.2.2)) (by omega) ?_ (by omega)).mono fun r W' ⟨⟨g, c', he, hg, hR⟩, hB⟩ => ?_
      · rcases hz with hz | hz
        · exact .inl (hn.trans (hz _ _))
        · exact .inr hz
      · have hrow := St.row1 P hq h4 hB hg hR hgl (P.rmono hr4 (by rw [grow_length]; omega)) 8 (.slice (some ⟨g, 0, none⟩) n c')
        have hbq : Blk W' q _ _ := (hB.block q (P.lt h4.1 hq)).trans h4.2.1
        have hql := P.lt h4.1 hq
        obtain ⟨cur, _, hc1, hc2, _⟩ := hR
        exact ⟨g, c', he, hc1, hc2, hbq.cell _ rfl, hbq.free, hrow, by omega, fun hs => by have := P.lt h4.1 hs; omega⟩
    · rintro g c' m W ⟨h5, _, _⟩
      obtain ⟨_, _, _, _, _, _, _, _, hb, ⟨_, _, h1, h2, _⟩, _⟩ := h5
      exact ⟨h1, h2, hb.cell _ rfl⟩
    · rintro g c' m W ⟨h5, h6⟩
      exact ⟨h5.drew P, h6⟩
    · rintro g c' m W ⟨h5, h6, h7⟩ hm
      exact Calls.mono (h5.byte P h6 h7 hq hm) fun r W' hh => ⟨hh.1, hh.2, h6, h7⟩
    · rintro g c' W ⟨h5, _, hgS⟩
      rw [hin]
      exact LSt.got2 P (by omega) h5 hgS hI'
theorem Pass.w_fields (P : Pass x I rm T v fb fl fm) (hk : ks.1.wf) : (x.fields ks).1.wf := by
  have hk2 := P.w_three (P.w_player hk)
  have hk3 := P.w_first hk2
  unfold Ps.fields
  dsimp only
  split
  · exact P.w_own hk2
  split
  · exact ⟨hk3.kind, hk3.player, hk3.epoch, hk3.dest, hk3.count, hk3.own, hk3.first, hk3.frame, hk3.sum⟩
  split
  · exact ⟨hk3.kind, hk3.player, hk3.epoch, hk3.dest, hk3.count, hk3.own, hk3.first, hk3.frame, hk3.sum⟩
  split
  · exact P.w_two hk2
  · exact hk2
/-- What 'fields' does. -/
theorem Pass.all (sk : Sks fb fl fm) (P : Pass x I rm T v fb fl fm) (hm33 : ∀ st n, n ≤ 32 → (x.m st n).1 ≤ 33) (hC : ∀ W, Ks (fun j => S j ∧ j ≠ q) w W → C W) (hk : ks.1.wf) (hr : rm ks.2 200) (hq : S q) {b b' : Option Addr} {c c' : Nat} (h : St I S q w ks (.slice b ks.1.ins.length c) (.slice b' ks.1.prs.length c') w)
    (hl : ks.1.ins.length ≤ 32) (hI : ∀ W, C W → Ins W (.slice b ks.1.ins.length c) ks.1.ins) (hl' : ks.1.prs.length ≤ 32) (hI' : ∀ W, C W → Prs W (.slice b' ks.1.prs.length c') ks.1.prs)
    (hz : (∀ st n, (x.m st n).1 = n) ∨ (ks.1.ins = [] ∧ b = none ∧ c = 0 ∧ ks.1.prs = [] ∧ b' = none ∧ c' = 0)) :
    Fields q T v w (Got I S q w C (x.fields ks)) := by
  unfold Ps.fields
  have hH := P.head (w := w) (vi := .slice b ks.1.ins.length c) (vp := .slice b' ks.1.prs.length c') hk (P.rmono hr (by decide)) hq
  have hk2 := P.w_three (P.w_player hk)
  have hr2 : rm (x.three (x.player ks)).2 175 := P.r_three (P.r_player hr)
  by_cases h1 : ks.1.kind = 1
  · rw [if_pos (.inl h1)]
    rw [h1] at hH
    exact (sk.s1 q T v _ _ _ _ w P.mets hH (fun W W' h2 hp => P.c_own hk2 (P.rmono hr2 (by decide)) hq h2 hp.1 hp.2) h).mono fun W h => ⟨_, _, h, fun W hc _ => hI W hc, fun W hc _ => hI' W hc⟩
  by_cases h2 : ks.1.kind = 2
  · rw [if_pos (.inr h2)]
    rw [h2] at hH
    exact (sk.s2 q T v _ _ _ _ w P.mets hH (fun W W' h2 hp => P.c_own hk2 (P.rmono hr2 (by decide)) hq h2 hp.1 hp.2) h).mono fun W h => ⟨_, _, h, fun W hc _ => hI W hc, fun W hc _ => hI' W hc⟩
  rw [if_neg (by omega)]
  by_cases h3 : ks.1.kind = 3
  · rw [if_pos h3]
    exact P.kind3 sk hm33 hC hk hr hq h h3 hl hI hI' (hz.imp id fun hz => ⟨hz.1, hz.2.1, hz.2.2.1⟩)
  rw [if_neg h3]
  by_cases h4 : ks.1.kind = 4
  · rw [if_pos h4]
    exact P.kind4 sk hm33 hC hk hr hq h h4 hl' hI' hI (hz.imp id fun hz => hz.2.2.2)
  rw [if_neg h4]
  by_cases h5 : ks.1.kind = 5
  · rw [if_pos h5]
    rw [h5] at hH
    exact (sk.s5 q T v _ _ _ _ w P.mets hH (fun W W' h2 hp => P.c_two hk2 (P.rmono hr2 (by decide)) hq h2 hp.1 hp.2) h).mono fun W h => ⟨_, _, h, fun W hc _ => hI W hc, fun W hc _ => hI' W hc⟩
  rw [if_neg h5]
  exact (sk.s0 q T v ks.1.kind _ _ _ w P.mets hH (by omega) h).mono fun W h => ⟨_, _, h, fun W hc _ => hI W hc, fun W hc _ => hI' W hc⟩
end
end Go.Proofs.YtdgbililgkhjfaaDoor.Pk
