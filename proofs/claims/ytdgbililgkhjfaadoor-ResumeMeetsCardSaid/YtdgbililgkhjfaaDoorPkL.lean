/- What passing the fields of a packet reads out of bytes: the packet of the bytes. Plain. No conditions. -/
import Derived.Test.YtdgbililgkhjfaaDoorPkF
namespace Go.Proofs.YtdgbililgkhjfaaDoor.Pk
open Go.RowKit Go.Proofs.YtdgbililgkhjfaaDoor.Crc Go.Proofs.YtdgbililgkhjfaaDoor.Codec Go.Proofs.YtdgbililgkhjfaaDoor.CrcWalk
set_option linter.unusedVariables false
/-- A writer's pass. -/
def psO : Ps (List UInt8) := ⟨fun s n => (n, s ++ leB n 1), fun s n => (n, s ++ leB n 8), fun s n => (n, s ++ leB n 1)⟩
/-- A reader's pass. -/
def psI : Ps RS := ⟨fun s _ => (rdv 1 s, rdn 1 s), fun s _ => (rdv 8 s, rdn 8 s), fun s _ => (min (rdv 1 s) 33, rdn 1 s)⟩
/-- What is left; none: it is spoilt. -/
def ad (j : Nat) (s : Option (List UInt8)) : Option (List UInt8) := s.bind fun m => if j ≤ m.length then some (m.drop j) else none
def va (j : Nat) (s : Option (List UInt8)) : Nat := match s with
  | none => 0
  | some m => if j ≤ m.length then V (m.take j) else 0
/-- A reader's pass over a list. -/
def psL : Ps (Option (List UInt8)) := ⟨fun s _ => (va 1 s, ad 1 s), fun s _ => (va 8 s, ad 8 s), fun s _ => (min (va 1 s) 33, ad 1 s)⟩
def left (st : RS) : Option (List UInt8) := if st.2 = 0 then some st.1.data.toList else none
theorem left_rdn (j : Nat) (st : RS) : left (rdn j st) = ad j (left st) := by
  obtain ⟨s, e⟩ := st
  unfold left rdn ad
  by_cases h : e = 0
  · subst h
    simp only [tkR, tkE, if_true, Option.bind_some]
    have hl : s.data.toList.length = s.size := by simp
    rw [hl]
    by_cases h2 : j ≤ s.size
    · rw [if_pos h2, if_pos h2, if_pos h2]
      simp
      exact List.take_of_length_le (by simp)
    · rw [if_neg h2, if_neg h2]
      simp
      omega
  · simp only [tkR, tkE, if_neg h, Option.bind_none]
theorem rdv_left (j : Nat) (st : RS) : rdv j st = va j (left st) := by
  obtain ⟨s, e⟩ := st
  unfold left rdv rv va tkS
  by_cases h : e = 0
  · subst h
    have hl : s.data.toList.length = s.size := by simp
    simp only [if_true, hl]
    by_cases h2 : j ≤ s.size
    · rw [if_pos h2, if_pos h2]; simp
    · rw [if_neg h2, if_neg h2]; rfl
  · simp only [if_neg h]; rfl
section
variable {σ τ : Type}
/-- Two passes that go along with one another. -/
structure Along (x : Ps σ) (y : Ps τ) (f : σ → τ) : Prop where
  b : ∀ st n, (x.b st n).1 = (y.b (f st) n).1 ∧ f (x.b st n).2 = (y.b (f st) n).2
  l : ∀ st n, (x.l st n).1 = (y.l (f st) n).1 ∧ f (x.l st n).2 = (y.l (f st) n).2
  m : ∀ st n, (x.m st n).1 = (y.m (f st) n).1 ∧ f (x.m st n).2 = (y.m (f st) n).2
variable {x : Ps σ} {y : Ps τ} {f : σ → τ}
theorem Along.bs (h : Along x y f) : ∀ (l : List UInt8) (st : σ), (x.bs st l).1 = (y.bs (f st) l).1 ∧ f (x.bs st l).2 = (y.bs (f st) l).2
  | [], st => ⟨rfl, rfl⟩
  | n :: l, st => by
    have h1 := h.b st n.toNat
    have h2 := Along.bs h l (x.b st n.toNat).2
    rw [h1.2] at h2
    exact ⟨by simp only [Ps.bs, h1.1, h2.1], by simp only [Ps.bs, h2.2]⟩
def To (f : σ → τ) (k : K × σ) (k' : K × τ) : Prop := k.1 = k'.1 ∧ f k.2 = k'.2
theorem Along.player (h : Along x y f) {k : K × σ} {k' : K × τ} (hk : To f k k') : To f (x.player k) (y.player k') := by
  obtain ⟨k, st⟩ := k
  obtain ⟨k', st'⟩ := k'
  obtain ⟨h1, h2⟩ := hk
  dsimp only at h1 h2
  subst h1 h2
  have b := h.b st k.player
  unfold Ps.player To
  exact ⟨by simp only [b.1], b.2⟩
theorem Along.three (h : Along x y f) {k : K × σ} {k' : K × τ} (hk : To f k k') : To f (x.three k) (y.three k') := by
  obtain ⟨k, st⟩ := k
  obtain ⟨k', st'⟩ := k'
  obtain ⟨h1, h2⟩ := hk
  dsimp only at h1 h2
  subst h1 h2
  have b1 := h.l st k.epoch
  have b2 := h.l (x.l st k.epoch).2 k.dest
  have b3 := h.l (x.l (x.l st k.epoch).2 k.dest).2 k.count
  unfold Ps.three To
  exact ⟨by simp only [b3.1, b2.1, b1.1, b2.2, b1.2], by simp only [b3.2, b2.2, b1.2]⟩
theorem Along.own (h : Along x y f) {k : K × σ} {k' : K × τ} (hk : To f k k') : To f (x.own k) (y.own k') := by
  obtain ⟨k, st⟩ := k
  obtain ⟨k', st'⟩ := k'
  obtain ⟨h1, h2⟩ := hk
  dsimp only at h1 h2
  subst h1 h2
  have b := h.l st k.own
  unfold Ps.own To
  exact ⟨by simp only [b.1], b.2⟩
theorem Along.first (h : Along x y f) {k : K × σ} {k' : K × τ} (hk : To f k k') : To f (x.first k) (y.first k') := by
  obtain ⟨k, st⟩ := k
  obtain ⟨k', st'⟩ := k'
  obtain ⟨h1, h2⟩ := hk
  dsimp only at h1 h2
  subst h1 h2
  have b := h.l st k.first
  unfold Ps.first To
  exact ⟨by simp only [b.1], b.2⟩
theorem Along.two (h : Along x y f) {k : K × σ} {k' : K × τ} (hk : To f k k') : To f (x.two k) (y.two k') := by
  obtain ⟨k, st⟩ := k
  obtain ⟨k', st'⟩ := k'
  obtain ⟨h1, h2⟩ := hk
  dsimp only at h1 h2
  subst h1 h2
  have b1 := h.l st k.frame
  have b2 := h.l (x.l st k.frame).2 k.sum
  unfold Ps.two To
  exact ⟨by simp only [b2.1, b1.1, b1.2], by simp only [b2.2, b1.2]⟩
theorem Along.inputs (h : Along x y f) {k : K × σ} {k' : K × τ} (hk : To f k k') : To f (x.inputs k) (y.inputs k') := by
  obtain ⟨k, st⟩ := k
  obtain ⟨k', st'⟩ := k'
  obtain ⟨h1, h2⟩ := hk
  dsimp only at h1 h2
  subst h1 h2
  have b1 := h.m st k.ins.length
  have b2 := h.bs (grow k.ins (x.m st k.ins.length).1) (x.m st k.ins.length).2
  rw [b1.2, b1.1] at b2
  unfold Ps.inputs To
  exact ⟨by simp only [b1.1, b2.1], by simp only [b1.1, b2.2]⟩
theorem Along.pairs (h : Along x y f) {k : K × σ} {k' : K × τ} (hk : To f k k') : To f (x.pairs k) (y.pairs k') := by
  obtain ⟨k, st⟩ := k
  obtain ⟨k', st'⟩ := k'
  obtain ⟨h1, h2⟩ := hk
  dsimp only at h1 h2
  subst h1 h2
  have b1 := h.m st k.prs.length
  have b2 := h.bs (grow (flat k.prs) (2 * (x.m st k.prs.length).1)) (x.m st k.prs.length).2
  rw [b1.2, b1.1] at b2
  unfold Ps.pairs To
  exact ⟨by simp only [b1.1, b2.1], by simp only [b1.1, b2.2]⟩
theorem Along.fields (h : Along x y f) {k : K × σ} {k' : K × τ} (hk : To f k k') : To f (x.fields k) (y.fields k') := by
  have hh := h.three (h.player hk)
  have hkk : k.1.kind = k'.1.kind := by rw [hk.1]
  unfold Ps.fields
  dsimp only
  rw [hkk]
  split
  · exact h.own hh
  split
  · exact h.inputs (h.first hh)
  split
  · exact h.pairs (h.first hh)
  split
  · exact h.two hh
  · exact hh
end
theorem along : Along psI psL left where
  b := fun st n => ⟨rdv_left 1 st, left_rdn 1 st⟩
  l := fun st n => ⟨rdv_left 8 st, left_rdn 8 st⟩
  m := fun st n => ⟨by simp only [psI, psL, rdv_left], left_rdn 1 st⟩
theorem ad_ad (i j : Nat) (s : Option (List UInt8)) : ad j (ad i s) = ad (i + j) s := by
  cases s with
  | none => rfl
  | some m =>
    unfold ad
    simp only [Option.bind_some]
    by_cases h : i ≤ m.length
    · rw [if_pos h]
      simp only [Option.bind_some, List.length_drop, List.drop_drop]
      by_cases h2 : i + j ≤ m.length
      · rw [if_pos h2, if_pos (by omega)]
      · rw [if_neg h2, if_neg (by omega)]
    · rw [if_neg h, if_neg (by omega)]; rfl
theorem va_ad (i j : Nat) (m : List UInt8) (h : i + j ≤ m.length) : va j (ad i (some m)) = V ((m.drop i).take j) := by
  unfold ad va
  simp only [Option.bind_some]
  rw [if_pos (by omega)]
  simp only [List.length_drop]
  rw [if_pos (by omega)]
theorem ad_bs : ∀ (l : List UInt8) (s : Option (List UInt8)), (psL.bs s l).2 = ad l.length s
  | [], s => by cases s with
    | none => rfl
    | some m => simp [ad, Ps.bs]
  | b :: l, s => by
    show (psL.bs (ad 1 s) l).2 = _
    rw [ad_bs l, ad_ad, List.length_cons, Nat.add_comm]
theorem va_bs : ∀ (l m : List UInt8), l.length ≤ m.length → (psL.bs (some m) l).1 = m.take l.length
  | [], m, h => by simp [Ps.bs]
  | b :: l, [], h => by simp at h
  | b :: l, c :: m, h => by
    have h1 : ad 1 (some (c :: m)) = some m := by simp [ad]
    have h2 : va 1 (some (c :: m)) = c.toNat := by simp [va, V]
    show UInt8.ofNat (va 1 (some (c :: m))) :: (psL.bs (ad 1 (some (c :: m))) l).1 = _
    rw [h1, h2, va_bs l m (by simpa using h)]
    simp
theorem ad_end (j : Nat) (m : List UInt8) : ad j (some m) = some [] ↔ m.length = j := by
  unfold ad
  simp only [Option.bind_some]
  by_cases h : j ≤ m.length
  · rw [if_pos h, Option.some.injEq, List.drop_eq_nil_iff]; omega
  · rw [if_neg h]; constructor
    · intro h; cases h
    · omega
/-- The packet of a kind. -/
def K.of (c : Int) : K := { K.zero with kind := c }
/-- What is read of bytes, if all are read and none are missing, is the packet of the bytes. -/
theorem parL (c : Nat) (m : List UInt8) (k : K) : par c m = some k ↔ (psL.fields (K.of c, some m)).2 = some [] ∧ (psL.fields (K.of c, some m)).1 = k := by
  have hh : psL.three (psL.player (K.of c, some m)) = (⟨c, va 1 (some m), va 8 (ad 1 (some m)), va 8 (ad 9 (some m)), va 8 (ad 17 (some m)), 0, 0, [], [], 0, 0⟩, ad 25 (some m)) := by
    show (K.mk _ _ (va 8 (ad 1 (some m))) (va 8 (ad 8 (ad 1 (some m)))) (va 8 (ad 8 (ad 8 (ad 1 (some m))))) _ _ _ _ _ _, ad 8 (ad 8 (ad 8 (ad 1 (some m))))) = _
    simp only [ad_ad]
    rfl
  unfold Ps.fields
  dsimp only
  rw [hh]
  have hkd : (K.of c).kind = c := rfl
  rw [hkd]
  have v0 : 25 ≤ m.length → va 1 (some m) = V (m.take 1) ∧ va 8 (ad 1 (some m)) = V ((m.drop 1).take 8) ∧ va 8 (ad 9 (some m)) = V ((m.drop 9).take 8) ∧ va 8 (ad 17 (some m)) = V ((m.drop 17).take 8) := fun h => by
    refine ⟨?_, va_ad 1 8 m (by omega), va_ad 9 8 m (by omega), va_ad 17 8 m (by omega)⟩
    unfold va
    dsimp only
    rw [if_pos (by omega)]
  unfold par
  by_cases h12 : c = 1 ∨ c = 2
  · rw [if_pos (show (c : Int) = 1 ∨ (c : Int) = 2 by omega)]
    have e : psL.own (⟨c, va 1 (some m), va 8 (ad 1 (some m)), va 8 (ad 9 (some m)), va 8 (ad 17 (some m)), 0, 0, [], [], 0, 0⟩, ad 25 (some m)) = (⟨c, va 1 (some m), va 8 (ad 1 (some m)), va 8 (ad 9 (some m)), va 8 (ad 17 (some m)), va 8 (ad 25 (some m)), 0, [], [], 0, 0⟩, ad 33 (some m)) := by
      rw [← ad_ad 25 8]; rfl
    rw [e]
    dsimp only
    rw [ad_end, if_pos h12]
    by_cases hl : m.length = 33
    · obtain ⟨v1, v2, v3, v4⟩ := v0 (by omega)
      rw [if_neg (show ¬ m.length < 25 by omega), if_pos hl, Option.some.injEq, v1, v2, v3, v4, va_ad 25 8 m (by omega)]
      exact ⟨fun h => ⟨hl, h⟩, fun h => h.2⟩
    · constructor
      · intro h
        split at h
        · cases h
        · first | (rw [if_neg hl] at h; cases h) | cases h
      · exact fun h => absurd h.1 hl
  rw [if_neg (show ¬ ((c : Int) = 1 ∨ (c : Int) = 2) by omega), if_neg h12]
  by_cases h3 : c = 3
  · rw [if_pos (show (c : Int) = 3 by omega), if_pos h3]
    have e : psL.first (⟨c, va 1 (some m), va 8 (ad 1 (some m)), va 8 (ad 9 (some m)), va 8 (ad 17 (some m)), 0, 0, [], [], 0, 0⟩, ad 25 (some m)) = (⟨c, va 1 (some m), va 8 (ad 1 (some m)), va 8 (ad 9 (some m)), va 8 (ad 17 (some m)), 0, va 8 (ad 25 (some m)), [], [], 0, 0⟩, ad 33 (some m)) := by
      rw [← ad_ad 25 8]; rfl
    rw [e]
    obtain ⟨n, hn⟩ : ∃ n, n = min (va 1 (ad 33 (some m))) 33 := ⟨_, rfl⟩
    have e2 : psL.inputs (⟨c, va 1 (some m), va 8 (ad 1 (some m)), va 8 (ad 9 (some m)), va 8 (ad 17 (some m)), 0, va 8 (ad 25 (some m)), [], [], 0, 0⟩, ad 33 (some m)) = (⟨c, va 1 (some m), va 8 (ad 1 (some m)), va 8 (ad 9 (some m)), va 8 (ad 17 (some m)), 0, va 8 (ad 25 (some m)), (psL.bs (ad 34 (some m)) (grow [] n)).1, [], 0, 0⟩, (psL.bs (ad 34 (some m)) (grow [] n)).2) := by
      rw [hn, ← ad_ad 33 1]; rfl
    rw [e2]
    dsimp only
    have hgl : (grow [] n).length = n := by
      unfold grow
      by_cases h : n = ([] : List UInt8).length
      · rw [if_pos h, h]
      · rw [if_neg h, List.length_replicate]
    rw [ad_bs, ad_ad, hgl, ad_end]
    by_cases hl : m.length = 34 + n
    · obtain ⟨v1, v2, v3, v4⟩ := v0 (by omega)
      have hn2 : n = min (V ((m.drop 33).take 1)) 33 := by rw [hn, va_ad 33 1 m (by omega)]
      have hb : (psL.bs (ad 34 (some m)) (grow [] n)).1 = m.drop 34 := by
        have h34 : ad 34 (some m) = some (m.drop 34) := by
          unfold ad
          simp only [Option.bind_some]
          rw [if_pos (by omega)]
        rw [h34, va_bs _ _ (by rw [hgl, List.length_drop]; omega), hgl, List.take_of_length_le (by rw [List.length_drop]; omega)]
      rw [if_neg (show ¬ m.length < 25 by omega), if_neg (show ¬ m.length < 34 by omega), if_pos (by rw [← hn2]; exact hl), Option.some.injEq, v1, v2, v3, v4, va_ad 25 8 m (by omega), hb]
      exact ⟨fun h => ⟨hl, h⟩, fun h => h.2⟩
    · constructor
      · intro h
        split at h
        · cases h
        split at h
        · cases h
        · next h34 =>
          rw [va_ad 33 1 m (by omega)] at hn
          rw [if_neg (by rw [← hn]; exact hl)] at h; cases h
      · exact fun h => absurd h.1 hl
  rw [if_neg (show ¬ (c : Int) = 3 by omega), if_neg h3]
  by_cases h4 : c = 4
  · rw [if_pos (show (c : Int) = 4 by omega), if_pos h4]
    have e : psL.first (⟨c, va 1 (some m), va 8 (ad 1 (some m)), va 8 (ad 9 (some m)), va 8 (ad 17 (some m)), 0, 0, [], [], 0, 0⟩, ad 25 (some m)) = (⟨c, va 1 (some m), va 8 (ad 1 (some m)), va 8 (ad 9 (some m)), va 8 (ad 17 (some m)), 0, va 8 (ad 25 (some m)), [], [], 0, 0⟩, ad 33 (some m)) := by
      rw [← ad_ad 25 8]; rfl
    rw [e]
    obtain ⟨n, hn⟩ : ∃ n, n = min (va 1 (ad 33 (some m))) 33 := ⟨_, rfl⟩
    have e2 : psL.pairs (⟨c, va 1 (some m), va 8 (ad 1 (some m)), va 8 (ad 9 (some m)), va 8 (ad 17 (some m)), 0, va 8 (ad 25 (some m)), [], [], 0, 0⟩, ad 33 (some m)) = (⟨c, va 1 (some m), va 8 (ad 1 (some m)), va 8 (ad 9 (some m)), va 8 (ad 17 (some m)), 0, va 8 (ad 25 (some m)), [], unflat (psL.bs (ad 34 (some m)) (grow [] (2 * n))).1, 0, 0⟩, (psL.bs (ad 34 (some m)) (grow [] (2 * n))).2) := by
      rw [hn, ← ad_ad 33 1]; rfl
    rw [e2]
    dsimp only
    have hgl : (grow [] (2 * n)).length = 2 * n := by
      unfold grow
      by_cases h : 2 * n = ([] : List UInt8).length
      · rw [if_pos h, h]
      · rw [if_neg h, List.length_replicate]
    rw [ad_bs, ad_ad, hgl, ad_end]
    by_cases hl : m.length = 34 + 2 * n
    · obtain ⟨v1, v2, v3, v4⟩ := v0 (by omega)
      have hn2 : n = min (V ((m.drop 33).take 1)) 33 := by rw [hn, va_ad 33 1 m (by omega)]
      have hb : (psL.bs (ad 34 (some m)) (grow [] (2 * n))).1 = m.drop 34 := by
        have h34 : ad 34 (some m) = some (m.drop 34) := by
          unfold ad
          simp only [Option.bind_some]
          rw [if_pos (by omega)]
        rw [h34, va_bs _ _ (by rw [hgl, List.length_drop]; omega), hgl, List.take_of_length_le (by rw [List.length_drop]; omega)]
      rw [if_neg (show ¬ m.length < 25 by omega), if_neg (show ¬ m.length < 34 by omega), if_pos (by rw [← hn2]; exact hl), Option.some.injEq, v1, v2, v3, v4, va_ad 25 8 m (by omega), hb]
      exact ⟨fun h => ⟨hl, h⟩, fun h => h.2⟩
    · constructor
      · intro h
        split at h
        · cases h
        split at h
        · cases h
        · next h34 =>
          rw [va_ad 33 1 m (by omega)] at hn
          rw [if_neg (by rw [← hn]; exact hl)] at h; cases h
      · exact fun h => absurd h.1 hl
  rw [if_neg (show ¬ (c : Int) = 4 by omega), if_neg h4]
  by_cases h5 : c = 5
  · rw [if_pos (show (c : Int) = 5 by omega), if_pos h5]
    have e : psL.two (⟨c, va 1 (some m), va 8 (ad 1 (some m)), va 8 (ad 9 (some m)), va 8 (ad 17 (some m)), 0, 0, [], [], 0, 0⟩, ad 25 (some m)) = (⟨c, va 1 (some m), va 8 (ad 1 (some m)), va 8 (ad 9 (some m)), va 8 (ad 17 (some m)), 0, 0, [], [], va 8 (ad 25 (some m)), va 8 (ad 33 (some m))⟩, ad 41 (some m)) := by
      rw [← ad_ad 33 8, ← ad_ad 25 8]; rfl
    rw [e]
    dsimp only
    rw [ad_end]
    by_cases hl : m.length = 41
    · obtain ⟨v1, v2, v3, v4⟩ := v0 (by omega)
      rw [if_neg (show ¬ m.length < 25 by omega), if_pos hl, Option.some.injEq, v1, v2, v3, v4, va_ad 25 8 m (by omega), va_ad 33 8 m (by omega)]
      exact ⟨fun h => ⟨hl, h⟩, fun h => h.2⟩
    · constructor
      · intro h
        split at h
        · cases h
        · first | (rw [if_neg hl] at h; cases h) | cases h
      · exact fun h => absurd h.1 hl
  · rw [if_neg (show ¬ (c : Int) = 5 by omega), if_neg h5]
    dsimp only
    rw [ad_end]
    by_cases hl : m.length = 25
    · obtain ⟨v1, v2, v3, v4⟩ := v0 (by omega)
      rw [if_neg (show ¬ m.length < 25 by omega), if_pos hl, Option.some.injEq, v1, v2, v3, v4]
      exact ⟨fun h => ⟨hl, h⟩, fun h => h.2⟩
    · constructor
      · intro h
        split at h
        · cases h
        · first | (rw [if_neg hl] at h; cases h) | cases h
      · exact fun h => absurd h.1 hl
/-- What a reader's pass reads. -/
theorem parI (c : Nat) (st : RS) (h0 : st.2 = 0) (k : K) : par c st.1.data.toList = some k ↔ ((psI.fields (K.of c, st)).2.2 = 0 ∧ (psI.fields (K.of c, st)).2.1.size = 0) ∧ (psI.fields (K.of c, st)).1 = k := by
  have hl : left st = some st.1.data.toList := by unfold left; rw [if_pos h0]
  have ht := along.fields (k := (K.of c, st)) (k' := (K.of c, some st.1.data.toList)) ⟨rfl, hl⟩
  obtain ⟨t1, t2⟩ := ht
  rw [parL, ← t1, ← t2]
  refine and_congr_left fun _ => ?_
  generalize (psI.fields (K.of c, st)).2 = r
  obtain ⟨s, e⟩ := r
  unfold left
  dsimp only
  by_cases h : e = 0
  · rw [if_pos h, Option.some.injEq]
    constructor
    · intro hs
      refine ⟨h, ?_⟩
      have : s.data.toList.length = s.size := by simp
      rw [← this, hs]; rfl
    · rintro ⟨_, hs⟩
      have : s.data.toList.length = s.size := by simp
      exact List.eq_nil_of_length_eq_zero (by omega)
  · rw [if_neg h]
    constructor
    · intro hs; cases hs
    · exact fun hs => absurd hs.1 h
end Go.Proofs.YtdgbililgkhjfaaDoor.Pk
