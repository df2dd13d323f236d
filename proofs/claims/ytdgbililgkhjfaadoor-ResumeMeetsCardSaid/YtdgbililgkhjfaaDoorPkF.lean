/- A pass over a packet's fields, said once for writers and readers: plain words, and the contract that both fulfil. No conditions. -/
import Derived.Test.YtdgbililgkhjfaaDoorPkE
namespace Go.Proofs.YtdgbililgkhjfaaDoor.Pk
open Go.RowKit Go.Proofs.YtdgbililgkhjfaaDoor.Crc Go.Proofs.YtdgbililgkhjfaaDoor.Codec Go.Proofs.YtdgbililgkhjfaaDoor.CrcWalk
set_option linter.unusedVariables false
/-- A pass: how a byte, a number of eight bytes, how many follow are passed. -/
structure Ps (σ : Type) where
  b : σ → Nat → Nat × σ
  l : σ → Nat → Nat × σ
  m : σ → Nat → Nat × σ
variable {σ : Type}
def Ps.ls (x : Ps σ) : σ → List Nat → List Nat × σ
  | st, [] => ([], st)
  | st, n :: l => ((x.l st n).1 :: (Ps.ls x (x.l st n).2 l).1, (Ps.ls x (x.l st n).2 l).2)
def Ps.bs (x : Ps σ) : σ → List UInt8 → List UInt8 × σ
  | st, [] => ([], st)
  | st, n :: l => (UInt8.ofNat (x.b st n.toNat).1 :: (Ps.bs x (x.b st n.toNat).2 l).1, (Ps.bs x (x.b st n.toNat).2 l).2)
theorem Ps.ls_length (x : Ps σ) : ∀ (st : σ) (l : List Nat), (x.ls st l).1.length = l.length
  | _, [] => rfl
  | st, n :: l => by simp only [Ps.ls, List.length_cons, Ps.ls_length x _ l]
theorem Ps.bs_length (x : Ps σ) : ∀ (st : σ) (l : List UInt8), (x.bs st l).1.length = l.length
  | _, [] => rfl
  | st, n :: l => by simp only [Ps.bs, List.length_cons, Ps.bs_length x _ l]
/-- Values into cells, one behind the other. -/
def setAll : Array Value → List Nat → List Nat → Array Value
  | cs, o :: os, v :: vs => setAll (cs.setIfInBounds o (.int .u64 v)) os vs
  | cs, _, _ => cs
/-- What a pass does to fields of a packet. -/
def Ps.player (x : Ps σ) (k : K × σ) : K × σ := ({ k.1 with player := (x.b k.2 k.1.player).1 }, (x.b k.2 k.1.player).2)
def Ps.three (x : Ps σ) (k : K × σ) : K × σ :=
  ({ k.1 with epoch := (x.l k.2 k.1.epoch).1, dest := (x.l (x.l k.2 k.1.epoch).2 k.1.dest).1, count := (x.l (x.l (x.l k.2 k.1.epoch).2 k.1.dest).2 k.1.count).1 }, (x.l (x.l (x.l k.2 k.1.epoch).2 k.1.dest).2 k.1.count).2)
def Ps.own (x : Ps σ) (k : K × σ) : K × σ := ({ k.1 with own := (x.l k.2 k.1.own).1 }, (x.l k.2 k.1.own).2)
def Ps.first (x : Ps σ) (k : K × σ) : K × σ := ({ k.1 with first := (x.l k.2 k.1.first).1 }, (x.l k.2 k.1.first).2)
def Ps.two (x : Ps σ) (k : K × σ) : K × σ := ({ k.1 with frame := (x.l k.2 k.1.frame).1, sum := (x.l (x.l k.2 k.1.frame).2 k.1.sum).1 }, (x.l (x.l k.2 k.1.frame).2 k.1.sum).2)
/-- A list of so many bytes. -/
def grow (l : List UInt8) (n : Nat) : List UInt8 := if n = l.length then l else List.replicate n 0
def Ps.inputs (x : Ps σ) (k : K × σ) : K × σ :=
  let m := x.m k.2 k.1.ins.length
  let r := x.bs m.2 (grow k.1.ins m.1)
  ({ k.1 with ins := r.1 }, r.2)
def Ps.pairs (x : Ps σ) (k : K × σ) : K × σ :=
  let m := x.m k.2 k.1.prs.length
  let r := x.bs m.2 (grow (flat k.1.prs) (2 * m.1))
  ({ k.1 with prs := unflat r.1 }, r.2)
/-- The fields that a packet's kind names. -/
def Ps.fields (x : Ps σ) (k : K × σ) : K × σ :=
  let h := x.three (x.player k)
  if k.1.kind = 1 ∨ k.1.kind = 2 then x.own h else if k.1.kind = 3 then x.inputs (x.first h) else if k.1.kind = 4 then x.pairs (x.first h) else if k.1.kind = 5 then x.two h else h
/-- What holds of a pass over the program's values: I: its own memory, apart from the blocks S, is at a state; rm: there is room for so many bytes. -/
structure Pass (x : Ps σ) (I : (Nat → Prop) → σ → World → Prop) (rm : σ → Nat → Prop) (T : TypeId) (v : Value) (fb fl fm : Nat) : Prop where
  nb : ∀ w, (nilAhead 310 T v "hindcast/packet.byte").run Tryd.prog w = .ok (some false) w
  mb : ∀ w, (method 310 T v "hindcast/packet.byte").run Tryd.prog w = .ok (fb, v) w
  nl : ∀ w, (nilAhead 310 T v "hindcast/packet.long").run Tryd.prog w = .ok (some false) w
  ml : ∀ w, (method 310 T v "hindcast/packet.long").run Tryd.prog w = .ok (fl, v) w
  nm : ∀ w, (nilAhead 310 T v "hindcast/packet.many").run Tryd.prog w = .ok (some false) w
  mm : ∀ w, (method 310 T v "hindcast/packet.many").run Tryd.prog w = .ok (fm, v) w
  more : ∀ {S S' : Nat → Prop} {st : σ} {w w' : World}, I S st w → Below w.heap.size w w' → (∀ k, S' k → S k ∨ (w.heap.size ≤ k ∧ k < w'.heap.size)) → I S' st w'
  lt : ∀ {S : Nat → Prop} {st : σ} {w : World} {k : Nat}, I S st w → S k → k < w.heap.size
  far : ∀ {S : Nat → Prop} {st : σ} {w : World} {q o : Nat} {u : Value}, I S st w → S q → I S st (w.setCell ⟨q, o, none⟩ u)
  rmono : ∀ {st : σ} {n k : Nat}, rm st n → k ≤ n → rm st k
  rb : ∀ {st : σ} {n : Nat} (v : Nat), rm st (n + 1) → rm (x.b st v).2 n
  rl : ∀ {st : σ} {n : Nat} (v : Nat), rm st (n + 8) → rm (x.l st v).2 n
  rM : ∀ {st : σ} {n : Nat} (v : Nat), rm st (n + 1) → rm (x.m st v).2 n
  bl : ∀ {st : σ} {n : Nat}, n < 256 → (x.b st n).1 < 256
  ll : ∀ {st : σ} {n : Nat}, n < 18446744073709551616 → (x.l st n).1 < 18446744073709551616
  mlt : ∀ {st : σ} {n : Nat}, n < 256 → (x.m st n).1 < 256
  byte : ∀ {S : Nat → Prop} {st : σ} {w : World} {n q off : Nat} {cs : Array Value} {t : TypeId}, I S st w → rm st 1 → S q → Blk w q cs t → cs[off]? = some (.int .u8 n) → n < 256 →
    Calls Tryd.prog fb #[v, .pointer (some ⟨q, off, none⟩)] w fun r w' => r = .returned (.tuple #[]) ∧ I S (x.b st n).2 w' ∧ Blk w' q (cs.setIfInBounds off (.int .u8 (x.b st n).1)) t ∧ Ks (fun j => S j ∧ j ≠ q) w w'
  many : ∀ {S : Nat → Prop} {st : σ} {w : World} {n : Nat}, I S st w → rm st 1 → n < 256 →
    Calls Tryd.prog fm #[v, .int .i64 n] w fun r w' => r = .returned (.int .i64 (x.m st n).1) ∧ I S (x.m st n).2 w' ∧ Ks S w w'
  long : ∀ {S : Nat → Prop} {st : σ} {w W : World} {q : Nat} {offs vals : List Nat} {cs : Array Value} {t pt : TypeId}, I S st w → rm st (8 * offs.length) → S q → Blk w q cs t → vals.length = offs.length → offs.length ≤ 100 →
    (∀ i (h : i < vals.length), vals[i] < 18446744073709551616) → (∀ i (h : i < offs.length) (h' : i < vals.length), cs[offs[i]]? = some (.int .u64 vals[i])) →
    Below w.heap.size w W → W.heap[w.heap.size]? = some (.cells (offs.map fun o => Value.pointer (some ⟨q, o, none⟩)).toArray pt (0, 0)) →
    Calls Tryd.prog fl #[v, .slice (some ⟨w.heap.size, 0, none⟩) offs.length offs.length] W fun r w' => r = .returned (.tuple #[]) ∧ I S (x.ls st vals).2 w' ∧ Blk w' q (setAll cs offs (x.ls st vals).1) t ∧ Ks (fun j => S j ∧ j ≠ q) w w'
/-- A packet in block q at a state of a pass. -/
def St (I : (Nat → Prop) → σ → World → Prop) (S : Nat → Prop) (q : Nat) (w : World) (ks : K × σ) (vi vp : Value) (wx : World) : Prop :=
  I S ks.2 wx ∧ Blk wx q (pc ks.1 vi vp) 26 ∧ Ks (fun j => S j ∧ j ≠ q) w wx
section
variable {x : Ps σ} {I : (Nat → Prop) → σ → World → Prop} {rm : σ → Nat → Prop} {T : TypeId} {v : Value} {fb fl fm : Nat} {S : Nat → Prop} {q : Nat} {w wx W : World} {ks : K × σ} {vi vp : Value}
theorem Pass.drew (P : Pass x I rm T v fb fl fm) {st : σ} (h : I S st w) : I S st w.drew := P.more h ((Below.refl _ w).drew) fun _ h => .inl h
theorem St.drew (P : Pass x I rm T v fb fl fm) (h : St I S q w ks vi vp wx) : St I S q w ks vi vp wx.drew := ⟨P.drew h.1, h.2.1, h.2.2.drew⟩
theorem Pass.c_player (P : Pass x I rm T v fb fl fm) (hk : ks.1.wf) (hr : rm ks.2 1) (hq : S q) (h : St I S q w ks vi vp wx) :
    Calls Tryd.prog fb #[v, .pointer (some ⟨q, 1, none⟩)] wx fun r w' => r = .returned (.tuple #[]) ∧ St I S q w (x.player ks) vi vp w' := by
  refine (P.byte (off := 1) h.1 hr hq h.2.1 rfl hk.player).mono fun r w' hh => ⟨hh.1, hh.2.1, hh.2.2.1, h.2.2.trans hh.2.2.2⟩
theorem Pass.c_three (P : Pass x I rm T v fb fl fm) (hk : ks.1.wf) (hr : rm ks.2 24) (hq : S q) (h : St I S q w ks vi vp wx) (hB : Below wx.heap.size wx W) {pt : TypeId}
    (hg : W.heap[wx.heap.size]? = some (.cells #[.pointer (some ⟨q, 2, none⟩), .pointer (some ⟨q, 3, none⟩), .pointer (some ⟨q, 4, none⟩)] pt (0, 0))) :
    Calls Tryd.prog fl #[v, .slice (some ⟨wx.heap.size, 0, none⟩) 3 3] W fun r w' => r = .returned (.tuple #[]) ∧ St I S q w (x.three ks) vi vp w' := by
  refine (P.long (offs := [2, 3, 4]) (vals := [ks.1.epoch, ks.1.dest, ks.1.count]) h.1 hr hq h.2.1 rfl (by decide) (fun i hi => ?_) (fun i hi _ => ?_) hB hg).mono fun r w' hh => ⟨hh.1, hh.2.1, hh.2.2.1, h.2.2.trans hh.2.2.2⟩
  · match i, hi with
    | 0, _ => exact hk.epoch
    | 1, _ => exact hk.dest
    | 2, _ => exact hk.count
  · match i, hi with
    | 0, _ => rfl
    | 1, _ => rfl
    | 2, _ => rfl
theorem Pass.c_own (P : Pass x I rm T v fb fl fm) (hk : ks.1.wf) (hr : rm ks.2 8) (hq : S q) (h : St I S q w ks vi vp wx) (hB : Below wx.heap.size wx W) {pt : TypeId}
    (hg : W.heap[wx.heap.size]? = some (.cells #[.pointer (some ⟨q, 5, none⟩)] pt (0, 0))) :
    Calls Tryd.prog fl #[v, .slice (some ⟨wx.heap.size, 0, none⟩) 1 1] W fun r w' => r = .returned (.tuple #[]) ∧ St I S q w (x.own ks) vi vp w' := by
  refine (P.long (offs := [5]) (vals := [ks.1.own]) h.1 hr hq h.2.1 rfl (by decide) (fun i hi => ?_) (fun i hi _ => ?_) hB hg).mono fun r w' hh => ⟨hh.1, hh.2.1, hh.2.2.1, h.2.2.trans hh.2.2.2⟩
  · match i, hi with
    | 0, _ => exact hk.own
  · match i, hi with
    | 0, _ => rfl
theorem Pass.c_first (P : Pass x I rm T v fb fl fm) (hk : ks.1.wf) (hr : rm ks.2 8) (hq : S q) (h : St I S q w ks vi vp wx) (hB : Below wx.heap.size wx W) {pt : TypeId}
    (hg : W.heap[wx.heap.size]? = some (.cells #[.pointer (some ⟨q, 6, none⟩)] pt (0, 0))) :
    Calls Tryd.prog fl #[v, .slice (some ⟨wx.heap.size, 0, none⟩) 1 1] W fun r w' => r = .returned (.tuple #[]) ∧ St I S q w (x.first ks) vi vp w' := by
  refine (P.long (offs := [6]) (vals := [ks.1.first]) h.1 hr hq h.2.1 rfl (by decide) (fun i hi => ?_) (fun i hi _ => ?_) hB hg).mono fun r w' hh => ⟨hh.1, hh.2.1, hh.2.2.1, h.2.2.trans hh.2.2.2⟩
  · match i, hi with
    | 0, _ => exact hk.first
  · match i, hi with
    | 0, _ => rfl
theorem Pass.c_two (P : Pass x I rm T v fb fl fm) (hk : ks.1.wf) (hr : rm ks.2 16) (hq : S q) (h : St I S q w ks vi vp wx) (hB : Below wx.heap.size wx W) {pt : TypeId}
    (hg : W.heap[wx.heap.size]? = some (.cells #[.pointer (some ⟨q, 9, none⟩), .pointer (some ⟨q, 10, none⟩)] pt (0, 0))) :
    Calls Tryd.prog fl #[v, .slice (some ⟨wx.heap.size, 0, none⟩) 2 2] W fun r w' => r = .returned (.tuple #[]) ∧ St I S q w (x.two ks) vi vp w' := by
  refine (P.long (offs := [9, 10]) (vals := [ks.1.frame, ks.1.sum]) h.1 hr hq h.2.1 rfl (by decide) (fun i hi => ?_) (fun i hi _ => ?_) hB hg).mono fun r w' hh => ⟨hh.1, hh.2.1, hh.2.2.1, h.2.2.trans hh.2.2.2⟩
  · match i, hi with
    | 0, _ => exact hk.frame
    | 1, _ => exact hk.sum
  · match i, hi with
    | 0, _ => rfl
    | 1, _ => rfl
theorem Pass.w_player (P : Pass x I rm T v fb fl fm) (hk : ks.1.wf) : (x.player ks).1.wf := ⟨hk.kind, P.bl hk.player, hk.epoch, hk.dest, hk.count, hk.own, hk.first, hk.frame, hk.sum⟩
theorem Pass.w_three (P : Pass x I rm T v fb fl fm) (hk : ks.1.wf) : (x.three ks).1.wf := ⟨hk.kind, hk.player, P.ll hk.epoch, P.ll hk.dest, P.ll hk.count, hk.own, hk.first, hk.frame, hk.sum⟩
theorem Pass.w_own (P : Pass x I rm T v fb fl fm) (hk : ks.1.wf) : (x.own ks).1.wf := ⟨hk.kind, hk.player, hk.epoch, hk.dest, hk.count, P.ll hk.own, hk.first, hk.frame, hk.sum⟩
theorem Pass.w_first (P : Pass x I rm T v fb fl fm) (hk : ks.1.wf) : (x.first ks).1.wf := ⟨hk.kind, hk.player, hk.epoch, hk.dest, hk.count, hk.own, P.ll hk.first, hk.frame, hk.sum⟩
theorem Pass.w_two (P : Pass x I rm T v fb fl fm) (hk : ks.1.wf) : (x.two ks).1.wf := ⟨hk.kind, hk.player, hk.epoch, hk.dest, hk.count, hk.own, hk.first, P.ll hk.frame, P.ll hk.sum⟩
theorem Pass.r_player (P : Pass x I rm T v fb fl fm) {n : Nat} (h : rm ks.2 (n + 1)) : rm (x.player ks).2 n := P.rb _ h
theorem Pass.r_three (P : Pass x I rm T v fb fl fm) {n : Nat} (h : rm ks.2 (n + 24)) : rm (x.three ks).2 n := P.rl _ (P.rl _ (P.rl _ h))
theorem Pass.r_first (P : Pass x I rm T v fb fl fm) {n : Nat} (h : rm ks.2 (n + 8)) : rm (x.first ks).2 n := P.rl _ h
theorem bc_zero (n : Nat) : (List.replicate n (0 : UInt8)).map bc = List.replicate n (.int .u8 0) := by rw [List.map_replicate]; rfl
theorem ins_some {w : World} {b : Option Addr} {c : Nat} {l : List UInt8} (h : Ins w (.slice b l.length c) l) (hl : 0 < l.length) : ∃ g o, b = some ⟨g, o, none⟩ := by
  obtain ⟨b', c', hv, _, hc⟩ := h
  cases hv
  obtain ⟨g, o, e, _⟩ := hc 0 hl
  exact ⟨g, o, e⟩
theorem prs_some {w : World} {b : Option Addr} {c : Nat} {l : List (UInt8 × UInt8)} (h : Prs w (.slice b l.length c) l) (hl : 0 < l.length) : ∃ g o, b = some ⟨g, o, none⟩ := by
  obtain ⟨b', c', hv, _, hc⟩ := h
  cases hv
  obtain ⟨g, o, e, _⟩ := hc 0 hl
  exact ⟨g, o, e⟩
theorem grown1_any (b : Option Addr) (c n : Nat) (l : List UInt8) (w : World) (h : Ins w (.slice b l.length c) l) (hn : 0 < n) (hc : n = l.length ∨ (l = [] ∧ b = none ∧ c = 0)) (hn6 : n ≤ 1000000) :
    Calls Tryd.prog 93 #[.slice b l.length c, .int .i64 n] w fun e w' => (∃ g' c', e = .returned (.slice (some ⟨g', 0, none⟩) n c') ∧ w.heap.size ≤ g' ∧ Rw w' 42 1 g' n c' ((grow l n).map bc)) ∧ Below w.heap.size w w' := by
  by_cases he : n = l.length
  · subst he
    obtain ⟨g, o, rfl⟩ := ins_some h hn
    rw [grow, if_pos rfl]
    exact grown1_copy g o c l w hn h
  · rcases hc with hc | ⟨rfl, rfl, rfl⟩
    · exact absurd hc he
    · rw [grow, if_neg he, bc_zero]
      exact grown1_new n w hn hn6
theorem grown2_any (b : Option Addr) (c n : Nat) (l : List (UInt8 × UInt8)) (w : World) (h : Prs w (.slice b l.length c) l) (hn : 0 < n) (hc : n = l.length ∨ (l = [] ∧ b = none ∧ c = 0)) (hn6 : n ≤ 1000000) :
    Calls Tryd.prog 94 #[.slice b l.length c, .int .i64 n] w fun e w' => (∃ g' c', e = .returned (.slice (some ⟨g', 0, none⟩) n c') ∧ w.heap.size ≤ g' ∧ Rw w' 44 2 g' n c' ((grow (flat l) (2 * n)).map bc)) ∧ Below w.heap.size w w' := by
  by_cases he : n = l.length
  · subst he
    obtain ⟨g, o, rfl⟩ := prs_some h hn
    rw [grow, if_pos (flat_length l).symm, ← pcells_flat]
    exact grown2_copy g o c l w hn h
  · rcases hc with hc | ⟨rfl, rfl, rfl⟩
    · exact absurd hc he
    · rw [grow, if_neg (by simp [flat]; omega), bc_zero, Nat.mul_comm]
      exact grown2_new n w hn hn6
theorem Rw.set {w w' : World} {e : TypeId} {sz g n c m : Nat} {xs : List Value} {u : Value} (hm : m < n * sz) (h : Rw w e sz g n c xs) : ∃ cur, Blk w g cur e ∧ (∀ v, xs[m]? = some v → cur[m]? = some v) ∧ ∀ w', Blk w' g (cur.setIfInBounds m u) e → Rw w' e sz g n c (xs.set m u) := by
  obtain ⟨cur, hg, h1, h2, h3, h4⟩ := h
  have hmc : m < cur.size := by rw [h3]; exact Nat.lt_of_lt_of_le hm (Nat.mul_le_mul_right _ h1)
  refine ⟨cur, hg, fun v hv => ?_, fun w' hb => ⟨_, hb, h1, h2, by rw [Array.size_setIfInBounds]; exact h3, ?_⟩⟩
  · rw [← h4, List.getElem?_take, if_pos hm] at hv
    rw [← Array.getElem?_toList]; exact hv
  · rw [← h4, Array.toList_setIfInBounds, List.take_set]
/-- A row whose first m bytes are passed. -/
def LSt (x : Ps σ) (I : (Nat → Prop) → σ → World → Prop) (rm : σ → Nat → Prop) (S : Nat → Prop) (q g n c sz : Nat) (E : TypeId) (w : World) (cs : Array Value) (F : List UInt8 × σ) (m : Nat) (wx : World) : Prop :=
  ∃ don rest st', don.length = m ∧ m + rest.length = n * sz ∧ F = (don ++ (x.bs st' rest).1, (x.bs st' rest).2) ∧ rm st' rest.length ∧ I (fun j => S j ∨ j = g) st' wx ∧ Blk wx q cs 26 ∧ Rw wx E sz g n c ((don ++ rest).map bc) ∧ Ks (fun j => S j ∧ j ≠ q) w wx
theorem LSt.drew {g n c sz : Nat} {E : TypeId} {cs : Array Value} {F : List UInt8 × σ} {m : Nat} (P : Pass x I rm T v fb fl fm) (h : LSt x I rm S q g n c sz E w cs F m wx) : LSt x I rm S q g n c sz E w cs F m wx.drew := by
  obtain ⟨don, rest, st', h1, h2, h3, h4, h5, h6, h7, h8⟩ := h
  exact ⟨don, rest, st', h1, h2, h3, h4, P.drew h5, h6, h7, h8.drew⟩
theorem LSt.byte {g n c sz : Nat} {E : TypeId} {cs : Array Value} {F : List UInt8 × σ} {m : Nat} (P : Pass x I rm T v fb fl fm) (hgq : g ≠ q) (hgS : ¬ S g) (hqS : S q) (hm : m < n * sz) (h : LSt x I rm S q g n c sz E w cs F m wx) :
    Calls Tryd.prog fb #[v, .pointer (some ⟨g, m, none⟩)] wx fun r w' => r = .returned (.tuple #[]) ∧ LSt x I rm S q g n c sz E w cs F (m + 1) w' := by
  obtain ⟨don, rest, st', h1, h2, h3, h4, h5, h6, h7, h8⟩ := h
  match rest, h2, h3, h4, h7 with
  | [], h2, _, _, _ => simp at h2; omega
  | y :: rest, h2, h3, h4, h7 =>
    have hlt : (x.b st' y.toNat).1 < 256 := P.bl (UInt8.toNat_lt y)
    obtain ⟨cur, hb, hget, hset⟩ := h7.set (w' := wx) (u := .int .u8 (x.b st' y.toNat).1) hm
    have hcm : cur[m]? = some (.int .u8 y.toNat) := hget _ (by
      rw [List.map_append, List.getElem?_append_right (by simp [h1])]
      simp [h1, bc])
    refine (P.byte h5 (P.rmono h4 (by simp)) (.inr rfl) hb hcm (UInt8.toNat_lt y)).mono fun r w' hh => ⟨hh.1, ?_⟩
    obtain ⟨_, hi, hb', hk⟩ := hh
    have hr := hset w' hb'
    have e : (don ++ [UInt8.ofNat (x.b st' y.toNat).1] ++ rest).map bc = ((don ++ y :: rest).map bc).set m (.int .u8 (x.b st' y.toNat).1) := by
      have hh : bc (UInt8.ofNat (x.b st' y.toNat).1) = .int .u8 (x.b st' y.toNat).1 := by
        unfold bc
        rw [UInt8.toNat_ofNat', Nat.mod_eq_of_lt hlt]
      rw [List.map_append, List.map_append, List.map_append, List.append_assoc, List.set_append_right _ _ (by simp [h1])]
      simp [h1, hh]
    refine ⟨don ++ [UInt8.ofNat (x.b st' y.toNat).1], rest, (x.b st' y.toNat).2, by simp [h1], by simp at h2; omega, ?_, ?_, hi, ?_, ?_, ?_⟩
    · rw [h3]; simp [Ps.bs]
    · exact P.rb _ (P.rmono h4 (by simp))
    · exact (hk.block q ⟨.inl hqS, fun e => hgq e.symm⟩).trans h6
    · rw [e]; exact hr
    · exact h8.trans (hk.mono fun j hj => ⟨.inl hj.1, fun e => hgS (e ▸ hj.1)⟩)
theorem rw_ins {g n c : Nat} {E : TypeId} {l : List UInt8} (h : Rw wx E 1 g n c (l.map bc)) (hn : n = l.length) (hl : n ≤ 1000000) : Ins wx (.slice (some ⟨g, 0, none⟩) n c) l := by
  obtain ⟨cur, hg, h1, h2, h3, h4⟩ := h
  refine ⟨_, c, by rw [← hn], by omega, fun i hi => ⟨g, 0, rfl, lt_of_block hg, ?_⟩⟩
  rw [cell_of_row wx g (0 + i) _ _ _ hg, Nat.zero_add]
  have e : (cur.toList.take (n * 1))[i]? = (l.map bc)[i]? := by rw [h4]
  rw [List.getElem?_take, if_pos (by omega), Array.getElem?_toList] at e
  rw [e, List.getElem?_map, List.getElem?_eq_getElem hi]
  rfl
theorem flat_get : ∀ (l : List (UInt8 × UInt8)) (i : Nat) (h : i < l.length), (flat l)[i * 2]? = some l[i].1 ∧ (flat l)[i * 2 + 1]? = some l[i].2
  | p :: l, 0, _ => ⟨rfl, rfl⟩
  | p :: l, i + 1, h => by
    have ih := flat_get l i (by simpa using h)
    rw [show (i + 1) * 2 = i * 2 + 1 + 1 by omega]
    simpa [flat] using ih
theorem rw_prs {g n c : Nat} {E : TypeId} {l : List (UInt8 × UInt8)} (h : Rw wx E 2 g n c ((flat l).map bc)) (hn : n = l.length) (hl : n ≤ 1000000) : Prs wx (.slice (some ⟨g, 0, none⟩) n c) l := by
  obtain ⟨cur, hg, h1, h2, h3, h4⟩ := h
  have key : ∀ m, m < n * 2 → cur[m]? = ((flat l).map bc)[m]? := fun m hm => by
    rw [← h4, List.getElem?_take, if_pos hm, Array.getElem?_toList]
  refine ⟨_, c, by rw [← hn], by omega, fun i hi => ⟨g, 0, rfl, lt_of_block hg, ?_, ?_⟩⟩
  · rw [cell_of_row wx g (0 + i * 2) _ _ _ hg, Nat.zero_add, key _ (by omega), List.getElem?_map, (flat_get l i hi).1]
    rfl
  · rw [cell_of_row wx g (0 + i * 2 + 1) _ _ _ hg, Nat.zero_add, key _ (by omega), List.getElem?_map, (flat_get l i hi).2]
    rfl
/-- What fields leave. -/
def Fin (I : (Nat → Prop) → σ → World → Prop) (S : Nat → Prop) (q : Nat) (w : World) (ks : K × σ) (vi vp : Value) (wx : World) : Prop :=
  ∃ vi' vp', St I S q w ks vi' vp' wx ∧ (vi' = vi ∨ Ins wx vi' ks.1.ins) ∧ (vp' = vp ∨ Prs wx vp' ks.1.prs)
theorem Fin.of (h : St I S q w ks vi vp wx) : Fin I S q w ks vi vp wx := ⟨vi, vp, h, .inl rfl, .inl rfl⟩
/-- Behind many: the state alone is another one. -/
theorem Pass.c_many (P : Pass x I rm T v fb fl fm) (n : Nat) (hn : n < 256) (hr : rm ks.2 1) (h : St I S q w ks vi vp wx) (hq : S q) :
    Calls Tryd.prog fm #[v, .int .i64 n] wx fun r w' => r = .returned (.int .i64 (x.m ks.2 n).1) ∧ St I S q w (ks.1, (x.m ks.2 n).2) vi vp w' := by
  refine (P.many h.1 hr hn).mono fun r w' hh => ⟨hh.1, hh.2.1, (hh.2.2.block q hq).trans h.2.1, h.2.2.trans (hh.2.2.mono fun j hj => hj.1)⟩
/-- A row has come, and lies in the packet. -/
theorem St.row1 (P : Pass x I rm T v fb fl fm) {w1 : World} {xs : List UInt8} {g n c sz : Nat} {E : TypeId} (hq : S q) (h : St I S q w ks vi vp wx) (hB : Below wx.heap.size wx w1) (hg : wx.heap.size ≤ g) (hR : Rw w1 E sz g n c (xs.map bc)) (hxs : xs.length = n * sz) (hrm : rm ks.2 xs.length) (o : Nat) (u : Value) :
    LSt x I rm S q g n c sz E w ((pc ks.1 vi vp).setIfInBounds o u) (x.bs ks.2 xs) 0 (w1.setCell ⟨q, o, none⟩ u) := by
  have hbq : Blk w1 q (pc ks.1 vi vp) 26 := (hB.block q (P.lt h.1 hq)).trans h.2.1
  have hql := P.lt h.1 hq
  refine ⟨[], xs, ks.2, rfl, by rw [hxs]; omega, by simp, hrm, P.far (P.more h.1 hB fun k hk => ?_) (.inl hq), hbq.set u, ?_, ?_⟩
  · rcases hk with hk | rfl
    · exact .inl hk
    · exact .inr ⟨hg, hR.lt⟩
  · refine Rw.keep (by simpa using hR) ?_
    show (w1.heap.modify q _)[g]? = _
    rw [Array.getElem?_modify, if_neg (by omega)]
  · refine (h.2.2.trans (Ks.of_below (S := fun j => S j ∧ j ≠ q) hB fun k hk => P.lt h.1 hk.1)).trans ⟨rfl, rfl, rfl, by simp [World.setCell], fun k hk => ?_⟩
    show (w1.heap.modify q _)[k]? = _
    rw [Array.getElem?_modify, if_neg (fun e => hk.2 e.symm)]
theorem LSt.fin1 (P : Pass x I rm T v fb fl fm) {n c : Nat} {g : Nat} {E : TypeId} {F : List UInt8 × σ} {k : K} (hn : n ≤ 1000000) (h : LSt x I rm S q g n c 1 E w (pc k (.slice (some ⟨g, 0, none⟩) n c) vp) F n wx) : Fin I S q w ({ k with ins := F.1 }, F.2) vi vp wx := by
  obtain ⟨don, rest, st', h1, h2, h3, h4, h5, h6, h7, h8⟩ := h
  have hr : rest = [] := List.eq_nil_of_length_eq_zero (by omega)
  subst hr
  have e1 : F.1 = don := by rw [h3]; simp [Ps.bs]
  have e2 : F.2 = st' := by rw [h3]; simp [Ps.bs]
  rw [List.append_nil] at h7
  refine ⟨.slice (some ⟨g, 0, none⟩) n c, vp, ⟨?_, h6, h8⟩, .inr ?_, .inl rfl⟩
  · rw [e2]; exact P.more h5 (Below.refl _ wx) fun k hk => .inl (.inl hk)
  · rw [e1]; exact rw_ins h7 h1.symm hn
theorem LSt.fin2 (P : Pass x I rm T v fb fl fm) {n c : Nat} {g : Nat} {E : TypeId} {F : List UInt8 × σ} {k : K} (hn : n ≤ 1000000) (h : LSt x I rm S q g n c 2 E w (pc k vi (.slice (some ⟨g, 0, none⟩) n c)) F (n * 2) wx) : Fin I S q w ({ k with prs := unflat F.1 }, F.2) vi vp wx := by
  obtain ⟨don, rest, st', h1, h2, h3, h4, h5, h6, h7, h8⟩ := h
  have hr : rest = [] := List.eq_nil_of_length_eq_zero (by omega)
  subst hr
  have e1 : F.1 = don := by rw [h3]; simp [Ps.bs]
  have e2 : F.2 = st' := by rw [h3]; simp [Ps.bs]
  rw [List.append_nil] at h7
  obtain ⟨u1, u2⟩ := flat_unflat n don (by omega)
  refine ⟨vi, .slice (some ⟨g, 0, none⟩) n c, ⟨?_, h6, h8⟩, .inl rfl, .inr ?_⟩
  · rw [e2]; exact P.more h5 (Below.refl _ wx) fun k hk => .inl (.inl hk)
  · rw [e1]
    exact rw_prs (E := E) (by rw [u1]; exact h7) u2.symm hn
end
end Go.Proofs.YtdgbililgkhjfaaDoor.Pk
