/- A machine that meets the other one: plain words. No conditions. What the program's functions of a machine answer, but Out: walked. Conditions: the machine's blocks; the numbers are what their types bear; the lists lie in memory; the table. The program's Out: walked. Conditions: the machine's blocks; the numbers are what their types bear. Acts of the laws of the layer resume in memory, and as an argument; 'few': walked. Condition: the acts lie in memory. The laws' 'told' and 'awake' of the layer resume: walked. Condition: the table. The law ResumeKnows: walked. Conditions: the acts lie in memory; the table. What the document's functions of a machine answer: walked. Conditions: the machine's blocks; the numbers are what their types bear; the lists lie in memory. 'one' of the laws of the layer resume: walked. Conditions: the act lies in memory; the table. 'one' of the laws of the layer resume, at an Out: walked. Conditions: the act lies in memory. The law ResumePlays: walked. Conditions: the acts lie in memory; the table. -/
import Derived.Test.YtdgbililgkhjfaaDoorLkC
import Derived.Test.YtdgbililgkhjfaaDoorLkD
import Derived.Deep.AppendLies
import Derived.Test.YtdgbililgkhjfaaDoorLkF
import Derived.Test.YtdgbililgkhjfaaDoorPkN
namespace Go.Proofs.YtdgbililgkhjfaaDoor.Rs
open Go.RowKit Go.Proofs.YtdgbililgkhjfaaDoor.Crc Go.Proofs.YtdgbililgkhjfaaDoor.Codec Go.Proofs.YtdgbililgkhjfaaDoor.Pk Go.Proofs.YtdgbililgkhjfaaDoor.Lk
set_option linter.unusedVariables false
/-- A machine. -/
structure M where
  l : L
  st : Nat
  goal : Nat
  owes : Bool
/-- Its cells, its link lying at block g. -/
def mc (m : M) (g : Nat) : Array Value := #[.pointer (some ⟨g, 0, none⟩), .int .i64 m.st, .int .u64 m.goal, .bool m.owes]
def M.make (p e v : Nat) : M := ⟨L.make p e v, 1, 0, false⟩
def M.st1 (m : M) (l' : L) : Nat := if l'.epoch = m.l.epoch then m.st else 1
def M.met1 (m : M) (l' : L) : Bool := decide (m.st1 l' = 1) && l'.met
/-- A packet was taken: what it is then; the link is l'. -/
def M.took (m : M) (k : K) (l' : L) : M := ⟨l', if m.met1 l' = true then 2 else m.st1 l', if m.met1 l' = true then l'.count else m.goal, m.owes || decide (k.kind = 1)⟩
/-- What 'On' answers, and what the machine is then. -/
def M.on (m : M) (k : K) : M × Int := if (m.l.acc k).2 = 0 then (m.took k (m.l.acc k).1, 0) else (m, (m.l.acc k).2)
def M.look (m : M) (c : Nat) : M := ⟨m.l, if m.st = 2 ∧ m.goal ≤ c then 3 else m.st, m.goal, m.owes⟩
/-- A packet that is told. -/
def told (l : L) (kd : Int) (c own : Nat) : K := { l.hdr kd c with own := max own c }
/-- What 'Out' tells, and what the machine is then. -/
def M.says (m : M) (now : Nat) : Bool := decide (m.st = 1) && m.l.due now
def M.out (m : M) (now c own : Nat) : List K := (if m.owes then [told m.l 2 c own] else []) ++ (if m.says now then [told m.l 1 c own] else [])
def M.outs (m : M) (now : Nat) : M := ⟨if m.says now then m.l.sent now else m.l, m.st, m.goal, false⟩
structure M.wf (m : M) : Prop where
  l : m.l.wf
  st : 1 ≤ m.st ∧ m.st ≤ 3
  goal : m.goal < 18446744073709551616
theorem M.took_wf {m : M} {k : K} {l' : L} (h : m.wf) (h' : l'.wf) : (m.took k l').wf := by
  have h1 := h.st
  have h2 : 1 ≤ m.st1 l' ∧ m.st1 l' ≤ 3 := by
    unfold M.st1
    split <;> omega
  refine ⟨h', ?_, ?_⟩
  · show 1 ≤ (if m.met1 l' = true then 2 else m.st1 l') ∧ (if m.met1 l' = true then 2 else m.st1 l') ≤ 3
    split <;> omega
  · show (if m.met1 l' = true then l'.count else m.goal) < _
    split
    · exact h'.count
    · exact h.goal
theorem M.on_wf {m : M} {k : K} (h : m.wf) (hk : k.wf) : (m.on k).1.wf := by
  unfold M.on
  split
  · exact M.took_wf h (L.acc_wf h.l hk)
  · exact h
theorem M.look_wf {m : M} {c : Nat} (h : m.wf) : (m.look c).wf := by
  have h1 := h.st
  refine ⟨h.l, ?_, h.goal⟩
  show 1 ≤ (if m.st = 2 ∧ m.goal ≤ c then 3 else m.st) ∧ (if m.st = 2 ∧ m.goal ≤ c then 3 else m.st) ≤ 3
  split <;> omega
theorem M.outs_wf {m : M} {now : Nat} (h : m.wf) (hn : now < 18446744073709551616) : (m.outs now).wf := by
  refine ⟨?_, h.st, h.goal⟩
  show (if m.says now then m.l.sent now else m.l).wf
  split
  · exact L.sent_wf h.l hn
  · exact h.l
theorem M.make_wf {p e v : Nat} (h1 : p < 256) (h2 : e < 18446744073709551616) (h3 : 0 < v) (h4 : v ≤ 16) : (M.make p e v).wf :=
  ⟨L.make_wf h1 h2 h3 h4, ⟨Nat.le_refl 1, (by decide : 1 ≤ 3)⟩, (by decide : 0 < 18446744073709551616)⟩
end Go.Proofs.YtdgbililgkhjfaaDoor.Rs
namespace Go.Proofs.YtdgbililgkhjfaaDoor.Rs
open Go.RowKit Go.Proofs.YtdgbililgkhjfaaDoor.Crc Go.Proofs.YtdgbililgkhjfaaDoor.Codec Go.Proofs.YtdgbililgkhjfaaDoor.Pk Go.Proofs.YtdgbililgkhjfaaDoor.CrcWalk Go.Proofs.YtdgbililgkhjfaaDoor.Frame Go.Proofs.YtdgbililgkhjfaaDoor.Lk
set_option linter.unusedVariables false
set_option linter.unusedSimpArgs false
abbrev MT := 95
abbrev PT := 26
theorem wp_value_at {P : Program} {Q : Exit → Act → World → Prop} {o : Oper} {a : Act} {w w' : World} {v : Value} {K : Act → World → Prop} (d : Option Tmp) (hd : o.dst = d) (h : (execOp a.eval o).run P w = .ok (.value v) w') (hK : K (a.put d v) w') : o.wp P a w K Q := by
  subst hd
  exact Draw.wp_value h hK
theorem runs_at {P : Program} {Q : Exit → Act → World → Prop} {o : Oper} {a : Act} {w : World} {R : World → Value → Prop} {K : Act → World → Prop} (d : Option Tmp) (hd : o.dst = d) (h : Draw.Runs P o a.eval w R) (hK : ∀ w' v, R w' v → K (a.put d v) w') : o.wp P a w K Q := by
  subst hd
  exact Draw.Runs.wp h hK
/-- A machine and its link lie in their blocks. -/
structure Mb (gm gl : Nat) (m : M) (W : World) : Prop where
  a : Blk W gm (mc m gl) MT
  b : Blk W gl (lc m.l) LT
  ne : gm ≠ gl
theorem Mb.call {gm gl : Nat} {m : M} {W W' : World} (h : Mb gm gl m W) (hb : Below W.heap.size W W') : Mb gm gl m W' :=
  ⟨(hb.block _ h.a.lt).trans h.a, (hb.block _ h.b.lt).trans h.b, h.ne⟩
theorem kq_below {B p q : Nat} {w w' : World} (h : Below B w w') : Kq B p q w w' := ⟨h.os, h.tape, h.output, h.size, fun k hk _ _ => h.block k hk⟩
theorem kq_kp {B p q : Nat} {w w' : World} (h : Kp B q w w') : Kq B p q w w' := ⟨h.os, h.tape, h.output, h.size, fun k hk _ hq => h.block k hk hq⟩
theorem kq_kp' {B p q : Nat} {w w' : World} (h : Kp B p w w') : Kq B p q w w' := ⟨h.os, h.tape, h.output, h.size, fun k hk hp _ => h.block k hk hp⟩
theorem Kq.blk {B p q g : Nat} {w w' : World} {cs : Array Value} {t : TypeId} (h : Kq B p q w w') (hb : Blk w g cs t) (hg : g < B) (h1 : g ≠ p) (h2 : g ≠ q) : Blk w' g cs t := (h.block g hg h1 h2).trans hb
theorem Kq.bel {B p q B' : Nat} {w w' : World} (h : Kq B p q w w') (h1 : B' ≤ B) (h2 : B' ≤ p) (h3 : B' ≤ q) : Below B' w w' := ⟨h.os, h.tape, h.output, h.size, fun k hk => h.block k (by omega) (by omega) (by omega)⟩
theorem acc_two (l : L) (k : K) : (l.acc k).1 = l ∨ (l.acc k).2 = 0 := by
  unfold L.acc
  split
  · exact .inl rfl
  · split
    · exact .inl rfl
    · exact .inr rfl
/-- Under way: the machine, its link, the packet that came. -/
structure Mx (w : World) (gm gl : Nat) (m : M) (k : K) (vi vp : Value) (W : World) : Prop where
  a : Blk W gm (mc m gl) MT
  b : Blk W gl (lc m.l) LT
  c : Blk W w.heap.size (pc k vi vp) PT
  kq : Kq w.heap.size gm gl w W
theorem Mx.call {w : World} {gm gl : Nat} {m : M} {k : K} {vi vp : Value} {W W' : World} (h : Mx w gm gl m k vi vp W) (hb : Below W.heap.size W W') : Mx w gm gl m k vi vp W' :=
  ⟨(hb.block _ h.a.lt).trans h.a, (hb.block _ h.b.lt).trans h.b, (hb.block _ h.c.lt).trans h.c, h.kq.trans (kq_below (hb.mono h.kq.size))⟩
theorem Mx.link {w : World} {gm gl : Nat} {m : M} {k : K} {vi vp : Value} {W W' : World} {l' : L} (h : Mx w gm gl m k vi vp W) (hb : Blk W' gl (lc l') LT) (hk : Kp W.heap.size gl W W') (hne : gm ≠ gl) (hl : gl < w.heap.size) : Mx w gm gl { m with l := l' } k vi vp W' :=
  ⟨(hk.block _ h.a.lt hne).trans h.a, hb, (hk.block _ h.c.lt (by omega)).trans h.c, h.kq.trans (kq_kp (hk.mono h.kq.size))⟩
theorem Mx.set {w : World} {gm gl : Nat} {m : M} {k : K} {vi vp : Value} {W : World} (h : Mx w gm gl m k vi vp W) (hne : gm ≠ gl) (hm : gm < w.heap.size) (off : Nat) (v : Value) (m' : M) (hs : (mc m gl).setIfInBounds off v = mc m' gl) (hl : m'.l = m.l) : Mx w gm gl m' k vi vp (W.setCell ⟨gm, off, none⟩ v) :=
  ⟨hs ▸ h.a.set v, by rw [hl]; exact far_blk h.b hne _ _, far_blk h.c (by omega) _ _, h.kq.trans (kq_kp' ((Kp.refl _ _ _).setCell ⟨gm, off, none⟩ rfl v))⟩
set_option maxRecDepth 100000 in
theorem mis_any (m : M) (gm gl : Nat) (w : World) (h : Mb gm gl m w) : Calls Tryd.prog 81 #[.pointer (some ⟨gm, 0, none⟩)] w fun e w' => e = .returned (.bool true) ∧ w = w' := by
  have c0 : w.cell? ⟨gm, 0, none⟩ = some (.pointer (some ⟨gl, 0, none⟩)) := h.a.cell _ rfl
  clear h
  go_enter Tryd.func81, Tryd.ntmps81
  go_wp2
  go_ret
  exact ⟨rfl, rfl⟩
set_option maxRecDepth 100000 in
theorem mlink_any (m : M) (gm gl : Nat) (w : World) (h : Mb gm gl m w) : Calls Tryd.prog 44 #[.pointer (some ⟨gm, 0, none⟩)] w fun e w' => e = .returned (.pointer (some ⟨gl, 0, none⟩)) ∧ w = w' := by
  have c0 : w.cell? ⟨gm, 0, none⟩ = some (.pointer (some ⟨gl, 0, none⟩)) := h.a.cell _ rfl
  clear h
  go_enter Tryd.func44, Tryd.ntmps44
  go_wp2
  go_ret
  exact ⟨rfl, rfl⟩
set_option maxRecDepth 100000 in
theorem mstate_any (m : M) (gm gl : Nat) (w : World) (h : Mb gm gl m w) : Calls Tryd.prog 47 #[.pointer (some ⟨gm, 0, none⟩)] w fun e w' => e = .returned (.int .i64 m.st) ∧ w = w' := by
  have c0 : w.cell? ⟨gm, 0, none⟩ = some (.pointer (some ⟨gl, 0, none⟩)) := h.a.cell _ rfl
  have c1 : w.cell? ⟨gm, 1, none⟩ = some (.int .i64 m.st) := h.a.cell _ rfl
  clear h
  go_enter Tryd.func47, Tryd.ntmps47
  go_wp2
  go_ret
  exact ⟨rfl, rfl⟩
set_option maxRecDepth 100000 in
theorem mgoal_any (m : M) (gm gl : Nat) (w : World) (h : Mb gm gl m w) : Calls Tryd.prog 50 #[.pointer (some ⟨gm, 0, none⟩)] w fun e w' => e = .returned (.int .u64 m.goal) ∧ w = w' := by
  have c0 : w.cell? ⟨gm, 0, none⟩ = some (.pointer (some ⟨gl, 0, none⟩)) := h.a.cell _ rfl
  have c2 : w.cell? ⟨gm, 2, none⟩ = some (.int .u64 m.goal) := h.a.cell _ rfl
  clear h
  go_enter Tryd.func50, Tryd.ntmps50
  go_wp2
  go_ret
  exact ⟨rfl, rfl⟩
set_option maxRecDepth 100000 in
theorem mlook_any (m : M) (c gm gl : Nat) (w : World) (h : Mb gm gl m w) : Calls Tryd.prog 46 #[.pointer (some ⟨gm, 0, none⟩), .int .u64 c] w fun e w' => e = .returned (.int .i64 (m.look c).st) ∧ Mb gm gl (m.look c) w' ∧ Kp w.heap.size gm w w' := by
  have c0 : w.cell? ⟨gm, 0, none⟩ = some (.pointer (some ⟨gl, 0, none⟩)) := h.a.cell _ rfl
  have c1 : w.cell? ⟨gm, 1, none⟩ = some (.int .i64 m.st) := h.a.cell _ rfl
  have c2 : w.cell? ⟨gm, 2, none⟩ = some (.int .u64 m.goal) := h.a.cell _ rfl
  have f1 : w.frozen? ⟨gm, 1, none⟩ = false := h.a.free
  by_cases h2 : m.st = 2
  · have t1 : ((m.st : Int) == 2) = true := by rw [h2]; rfl
    by_cases h3 : m.goal ≤ c
    · have HQ := Lib.hid (show m.look c = { m with st := 3 } by unfold M.look; rw [if_pos ⟨h2, h3⟩])
      have HB := Lib.hid (show Mb gm gl { m with st := 3 } (w.setCell ⟨gm, 1, none⟩ (.int .i64 3)) from ⟨h.a.set (off := 1) (.int .i64 3), far_blk h.b h.ne _ _, h.ne⟩)
      have HK := Lib.hid ((Kp.refl w.heap.size gm w).setCell ⟨gm, 1, none⟩ rfl (.int .i64 3))
      rw [HQ.out]
      clear h h2
      go_enter Tryd.func46, Tryd.ntmps46
      go_wp2
      go_ret
      exact ⟨rfl, HB.out, HK.out⟩
    · have HQ := Lib.hid (show m.look c = m by unfold M.look; rw [if_neg (fun hh => h3 hh.2)])
      have HB := Lib.hid h
      rw [HQ.out]
      clear h h2
      go_enter Tryd.func46, Tryd.ntmps46
      go_wp2
      go_ret
      exact ⟨rfl, HB.out, Kp.refl _ _ _⟩
  · have t1 : ((m.st : Int) == 2) = false := by rw [beq_eq_false_iff_ne]; omega
    have HQ := Lib.hid (show m.look c = m by unfold M.look; rw [if_neg (fun hh => h2 hh.1)])
    have HB := Lib.hid h
    rw [HQ.out]
    clear h h2
    go_enter Tryd.func46, Tryd.ntmps46
    go_wp2
    go_ret
    exact ⟨rfl, HB.out, Kp.refl _ _ _⟩
set_option maxRecDepth 100000 in
theorem mnew_yes (p e v : Nat) (w : World) (h : mayL p e v) (he : e < 18446744073709551616) :
    Calls Tryd.prog 41 #[.int .u8 p, .int .u64 e, .int .i64 v] w fun r w' => ∃ gm gl, r = .returned (.pointer (some ⟨gm, 0, none⟩)) ∧ Mb gm gl (M.make p e v) w' ∧ Below w.heap.size w w' ∧ w.heap.size ≤ gm ∧ w.heap.size ≤ gl := by
  have HN := Lib.hid (new_yes p e v w h he)
  clear h he
  go_enter Tryd.func41, Tryd.ntmps41
  go_wp2_with fail
  refine HN.out.mono ?_
  rintro r w1 ⟨rfl, hb, hbel⟩
  have HB := Lib.hid (show Mb w1.heap.size w.heap.size (M.make p e v) (w1.alloc (.cells (mc (M.make p e v) w.heap.size) MT)) from ⟨heap_alloc_new w1 _, hb.alloc _, by have := hb.lt; omega⟩)
  have HL := Lib.hid (hbel.alloc hbel.size (.cells (mc (M.make p e v) w.heap.size) MT))
  have hsz := hbel.size
  clear hb hbel
  go_wp2
  go_ret
  exact ⟨w1.heap.size, w.heap.size, rfl, HB.out, HL.out, hsz, Nat.le_refl _⟩
set_option maxRecDepth 100000 in
theorem mnew_no (p e : Nat) (v : Int) (w : World) (h : ¬ mayL p e v) :
    Calls Tryd.prog 41 #[.int .u8 p, .int .u64 e, .int .i64 v] w fun r w' => r = .returned (.pointer none) ∧ w = w' := by
  have HN := Lib.hid (fun W => new_no p e v W h)
  clear h
  go_enter Tryd.func41, Tryd.ntmps41
  go_wp2_with fail
  refine (HN.out _).mono ?_
  rintro r w' ⟨rfl, rfl⟩
  go_wp2
  go_ret
  exact ⟨rfl, rfl⟩
set_option maxRecDepth 100000 in
set_option maxHeartbeats 4000000 in
/-- What 'On' answers. -/
theorem mon_any (m : M) (k : K) (vi vp : Value) (gm gl : Nat) (w : World) (h : Mb gm gl m w) (hm : m.wf) (hk : k.wf) (hi : ∀ V, Kq w.heap.size gm gl w V → Ins V vi k.ins) (hp : ∀ V, Kq w.heap.size gm gl w V → Prs V vp k.prs) (hT : ∀ V, Kq w.heap.size gm gl w V → Tab V) :
    Calls Tryd.prog 45 #[.pointer (some ⟨gm, 0, none⟩), .agg (pc k vi vp)] w fun r w' => r = .returned (.int .i64 (m.on k).2) ∧ Mb gm gl (m.on k).1 w' ∧ Kq w.heap.size gm gl w w' := by
  have gmlt := h.a.lt
  have gllt := h.b.lt
  have hne := h.ne
  have hx0 : Mx w gm gl m k vi vp (w.alloc (.cells (pc k vi vp) PT)) := ⟨h.a.alloc _, h.b.alloc _, heap_alloc_new w _, kq_below ((Below.refl _ w).alloc (Nat.le_refl _) _)⟩
  have HIS := Lib.hid (fun V (d : Mx w gm gl m k vi vp V) => mis_any m gm gl V ⟨d.a, d.b, hne⟩)
  have HEP := Lib.hid (fun l V (hl : L.wf l) (hb : Blk V gl (lc l) LT) => epoch_any l gl V hb hl)
  have HCO := Lib.hid (fun l V (hl : L.wf l) (hb : Blk V gl (lc l) LT) => count_any l gl V hb hl)
  have HME := Lib.hid (fun l V (hl : L.wf l) (hb : Blk V gl (lc l) LT) => met_any l gl V hb hl)
  have HAC := Lib.hid (fun V (d : Mx w gm gl m k vi vp V) => acc_any m.l k vi vp gl V d.b hm.l hk (hi V d.kq) (hp V d.kq) (hT V d.kq))
  have HLW := Lib.hid hm.l
  obtain ⟨A, hA⟩ : ∃ A, A = m.l.acc k := ⟨_, rfl⟩
  obtain ⟨l', E⟩ := A
  have hlw' : l'.wf := by have := L.acc_wf (k := k) hm.l hk; rw [← hA] at this; exact this
  have HLW' := Lib.hid hlw'
  obtain ⟨R, hR⟩ : ∃ R, R = m.on k := ⟨_, rfl⟩
  rw [← hR]
  have hR2 : R = if E = 0 then (m.took k l', 0) else (m, E) := by rw [hR]; unfold M.on; rw [← hA]
  have hsame : E ≠ 0 → l' = m.l := by
    intro hE
    rcases acc_two m.l k with h1 | h1
    · rw [← hA] at h1; exact h1
    · rw [← hA] at h1; exact absurd h1 hE
  rw [← hA] at HAC
  dsimp only at HAC
  have HR := Lib.hid hR2
  have HSAME := Lib.hid hsame
  clear hA hR hR2 hsame hlw' hi hp hT hk hm h
  have hc0 := hx0.a
  have c0 : (w.alloc (.cells (pc k vi vp) PT)).cell? ⟨gm, 0, none⟩ = some (.pointer (some ⟨gl, 0, none⟩)) := hc0.cell _ rfl
  clear hc0
  go_enter Tryd.func45, Tryd.ntmps45
  go_wp2_with fail
  go_step3
  go_wp2_with fail
  refine (HIS.out _ hx0).mono ?_
  rintro r w' ⟨rfl, rfl⟩
  go_wp2_with fail
  refine (HEP.out m.l _ HLW.out hx0.b).mono ?_
  rintro r w' ⟨rfl, rfl⟩
  clear c0
  go_upto_region 4 with fail
  change Code.wp _ _ _ _ (w.alloc (.cells (pc k vi vp) PT))
  generalize w.alloc (.cells (pc k vi vp) PT) = w1 at *
  refine Draw.wp_region_prefix 5 (Mx w gm gl m k vi vp) (fun W W' => Below W.heap.size W W') (fun i W vv => match i with
      | 0 => vv = .pointer (some ⟨gm, 0, none⟩)
      | 1 => vv = .pointer (some ⟨gm, 0, none⟩)
      | 2 => vv = .pointer (some ⟨gm, 0, none⟩)
      | 3 => vv = .pointer (some ⟨gl, 0, none⟩)
      | _ => vv = .agg (pc k vi vp)) (by kernel_rfl) (by kernel_rfl) (by decide) rfl (by decide) (by decide) (by decide) ?_ (hx0.call (Below.refl _ _).drew) ?_ [15, 16, 17, 18, 19] (by rfl) 2 (by rfl) ?_
  · intro i W W' vv he hf
    exact hf
  · refine ⟨?_, ?_, ?_, ?_, ?_, trivial⟩
    all_goals intro ρ W hJ hc hf hKn
    · refine Draw.Goes.plain rfl ?_
      exact Draw.Runs.value (w' := W) (v := ρ (.tmp 0)) rfl ⟨hJ, Below.refl _ _, hKn.1.2 0 rfl⟩
    · refine Draw.Goes.plain rfl ?_
      have h0 : ρ (.tmp 15) = .pointer (some ⟨gm, 0, none⟩) := hKn.1.get 0 15 rfl rfl
      refine Draw.Runs.value (w' := W) (v := .pointer (some ⟨gm, 0, none⟩)) ?_ ⟨hJ, Below.refl _ _, rfl⟩
      simp only [execOp]; go_simp
    · refine Draw.Goes.plain rfl ?_
      have h0 : ρ (.tmp 16) = .pointer (some ⟨gm, 0, none⟩) := hKn.1.get 1 16 rfl rfl
      refine Draw.Runs.value (w' := W) (v := .pointer (some ⟨gm, 0, none⟩)) ?_ ⟨hJ, Below.refl _ _, rfl⟩
      simp only [execOp]; go_simp
    · refine Draw.Goes.plain rfl ?_
      have h0 : ρ (.tmp 17) = .pointer (some ⟨gm, 0, none⟩) := hKn.1.get 2 17 rfl rfl
      have c : W.cell? ⟨gm, 0, none⟩ = some (.pointer (some ⟨gl, 0, none⟩)) := hJ.a.cell _ rfl
      refine Draw.Runs.value (w' := W) (v := .pointer (some ⟨gl, 0, none⟩)) ?_ ⟨hJ, Below.refl _ _, rfl⟩
      simp only [execOp]; go_simp
    · refine Draw.Goes.plain rfl ?_
      have h0 : ρ (.tmp 3) = .pointer (some ⟨w.heap.size, 0, none⟩) := hKn.1.2 3 rfl
      refine Draw.Runs.value (w' := W) (v := .agg (pc k vi vp)) ?_ ⟨hJ, Below.refl _ _, rfl⟩
      exact Draw.load_row PT _ rfl _ h0 PT _ (0, 0) _ hJ.c Tryd.underlying26 rfl (pc_info k vi vp)
  · intro u W hJ hf
    have r18 : u 18 = .pointer (some ⟨gl, 0, none⟩) := hf 3 _ 18 (by decide) rfl rfl
    have r19 : u 19 = .agg (pc k vi vp) := hf 4 _ 19 (by decide) rfl rfl
    simp only [List.foldl_cons, List.foldl_nil, List.setIfInBounds_toArray, List.set_cons_succ, List.set_cons_zero, r18, r19]
    have hJ1 := hJ
    clear hJ hf
    refine Draw.wpAny_one (i := 5) (by kernel_rfl) rfl rfl ?_
    refine runs_at (some 20) rfl (R := fun V z => z = .int .i64 E ∧ Blk V gl (lc l') LT ∧ Kp W.heap.size gl W V) (Draw.Runs.enter (f := 34) (args := #[.pointer (some ⟨gl, 0, none⟩), .agg (pc k vi vp)]) (by simp only [execOp]; go_simp) ((HAC.out W hJ1).mono fun e W' ⟨he, hb⟩ => ⟨_, he, rfl, hb⟩)) ?_
    rintro W2 z ⟨rfl, hb2, hk2⟩
    refine Draw.wpAny_one (i := 6) (by kernel_rfl) rfl rfl ?_
    refine wp_value_at (some 6) rfl (v := .int .i64 E) (w' := W2) (by simp only [execOp]; go_simp) ?_
    refine Draw.wpAny_end (by kernel_rfl) ?_
    simp only [Act.put, List.setIfInBounds_toArray, List.set_cons_succ, List.set_cons_zero]
    have hx2 : Mx w gm gl { m with l := l' } k vi vp W2 := hJ1.link hb2 hk2 hne gllt
    clear hb2 hk2 hJ1 hx0
    by_cases hE : E = 0
    case neg =>
      obtain rfl : R = (m, E) := HR.out.trans (if_neg hE)
      have hEn : (E != 0) = true := by rw [bne_iff_ne]; exact hE
      obtain rfl := HSAME.out hE
      have HX := Lib.hid hx2
      clear hx2 hE
      go_wp2
      go_ret
      exact ⟨rfl, ⟨HX.out.a, HX.out.b, hne⟩, HX.out.kq⟩
    case pos =>
      subst hE
      obtain rfl : R = (m.took k l', 0) := HR.out.trans (if_pos rfl)
      have c0 : W2.cell? ⟨gm, 0, none⟩ = some (.pointer (some ⟨gl, 0, none⟩)) := hx2.a.cell _ rfl
      have c3 : W2.cell? ⟨gm, 3, none⟩ = some (.bool m.owes) := hx2.a.cell _ rfl
      have f3 : W2.frozen? ⟨gm, 3, none⟩ = false := hx2.a.free
      have b0 : W2.cell? ⟨w.heap.size, 0, none⟩ = some (.int .i64 k.kind) := hx2.c.cell _ rfl
      have HX := Lib.hid hx2
      clear hx2
      obtain ⟨O, hO⟩ : ∃ O, O = (m.owes || decide (k.kind = 1)) := ⟨_, rfl⟩
      have HO := Lib.hid hO
      clear hO
      go_upto_region 7 with fail
      go_cut [] (fun wx => Mx w gm gl { m with l := l', owes := O } k vi vp wx)
      case first =>
        cases ho : m.owes with
        | true =>
          have HQ := Lib.hid (show O = true by rw [HO.out, ho]; rfl)
          have HS := Lib.hid (HX.out.set hne gmlt 3 (.bool true) { m with l := l', owes := true } rfl rfl)
          rw [ho] at c3
          go_wp2
          go_meet
          rw [HQ.out]
          exact HS.out
        | false =>
          obtain ⟨T, hT⟩ : ∃ T, (k.kind == 1) = T := ⟨_, rfl⟩
          have HQ := Lib.hid (show O = T by rw [HO.out, ho, ← hT, Bool.false_or, Bool.eq_iff_iff]; simp)
          have HS := Lib.hid (HX.out.set hne gmlt 3 (.bool T) { m with l := l', owes := T } rfl rfl)
          rw [ho] at c3
          go_wp2
          go_meet
          rw [HQ.out]
          exact HS.out
      case rest =>
      have hx3 := hcut
      clear hcut HX c0 c3 f3 b0
      have c0 : wc.cell? ⟨gm, 0, none⟩ = some (.pointer (some ⟨gl, 0, none⟩)) := hx3.a.cell _ rfl
      have c1 : wc.cell? ⟨gm, 1, none⟩ = some (.int .i64 m.st) := hx3.a.cell _ rfl
      have f1 : wc.frozen? ⟨gm, 1, none⟩ = false := hx3.a.free
      have HX := Lib.hid hx3
      clear hx3
      obtain ⟨s1, hs1⟩ : ∃ s1, s1 = m.st1 l' := ⟨_, rfl⟩
      have HS1 := Lib.hid hs1
      clear hs1
      go_upto_region 8 with fail
      go_cut [42] (fun z wx => z = .bool (decide (l'.epoch ≠ m.l.epoch)) ∧ wc = wx)
      case first =>
        go_wp2_with fail
        refine (HEP.out l' _ HLW'.out HX.out.b).mono ?_
        rintro r w' ⟨rfl, rfl⟩
        go_wp2
        go_meet
        refine ⟨?_, rfl⟩
        congr 1
        rw [Bool.eq_iff_iff, bne_iff_ne, decide_eq_true_iff]
        omega
      case rest =>
      obtain ⟨rfl, rfl⟩ := hcut
      go_upto_if 42 with fail
      go_cut [] (fun wx => Mx w gm gl { m with l := l', owes := O, st := s1 } k vi vp wx)
      case first =>
        by_cases he : l'.epoch = m.l.epoch
        · rw [decide_eq_false (fun hh => hh he)]
          have HQ := Lib.hid (show s1 = m.st by rw [HS1.out]; unfold M.st1; rw [if_pos he])
          clear he
          go_wp2
          go_meet
          rw [HQ.out]
          exact HX.out
        · rw [decide_eq_true he]
          have HQ := Lib.hid (show s1 = 1 by rw [HS1.out]; unfold M.st1; rw [if_neg he])
          have HS := Lib.hid (HX.out.set hne gmlt 1 (.int .i64 1) { m with l := l', owes := O, st := 1 } rfl rfl)
          clear he
          go_wp2
          go_meet
          rw [HQ.out]
          exact HS.out
      case rest =>
      have hx4 := hcut
      clear hcut HX c0 c1 f1
      have c0 : wc.cell? ⟨gm, 0, none⟩ = some (.pointer (some ⟨gl, 0, none⟩)) := hx4.a.cell _ rfl
      have c1 : wc.cell? ⟨gm, 1, none⟩ = some (.int .i64 s1) := hx4.a.cell _ rfl
      have c2 : wc.cell? ⟨gm, 2, none⟩ = some (.int .u64 m.goal) := hx4.a.cell _ rfl
      have f1 : wc.frozen? ⟨gm, 1, none⟩ = false := hx4.a.free
      have f2 : wc.frozen? ⟨gm, 2, none⟩ = false := hx4.a.free
      have HX := Lib.hid hx4
      clear hx4
      go_wp2_with fail
      go_step3
      by_cases h1 : s1 = 1
      · have t1 : ((s1 : Int) == 1) = true := by rw [h1]; rfl
        cases hmt : l'.met with
        | true =>
          have HQ := Lib.hid (show m.took k l' = { m with l := l', owes := O, st := 2, goal := l'.count } by
            unfold M.took M.met1
            rw [← HS1.out, decide_eq_true h1, hmt, HO.out]; rfl)
          have HS := Lib.hid ((HX.out.set hne gmlt 1 (.int .i64 2) { m with l := l', owes := O, st := 2 } rfl rfl).set hne gmlt 2 (.int .u64 l'.count) { m with l := l', owes := O, st := 2, goal := l'.count } rfl rfl)
          clear h1
          go_wp2_with fail
          refine (HME.out l' _ HLW'.out HX.out.b).mono ?_
          rintro r w' ⟨rfl, rfl⟩
          go_wp2_with fail
          refine (HCO.out l' _ HLW'.out HX.out.b).mono ?_
          rintro r w' ⟨rfl, rfl⟩
          go_wp2
          try rw [Exit.noGoto_ret]
          go_ret
          exact ⟨rfl, by rw [HQ.out]; exact ⟨HS.out.a, HS.out.b, hne⟩, HS.out.kq⟩
        | false =>
          have HQ := Lib.hid (show m.took k l' = { m with l := l', owes := O, st := s1 } by
            unfold M.took M.met1
            rw [← HS1.out, hmt, HO.out, Bool.and_false]; rfl)
          clear h1
          go_wp2_with fail
          refine (HME.out l' _ HLW'.out HX.out.b).mono ?_
          rintro r w' ⟨rfl, rfl⟩
          go_wp2
          try rw [Exit.noGoto_ret]
          go_ret
          exact ⟨rfl, by rw [HQ.out]; exact ⟨HX.out.a, HX.out.b, hne⟩, HX.out.kq⟩
      · have t1 : ((s1 : Int) == 1) = false := by rw [beq_eq_false_iff_ne]; omega
        have HQ := Lib.hid (show m.took k l' = { m with l := l', owes := O, st := s1 } by
          unfold M.took M.met1
          rw [← HS1.out, decide_eq_false h1, HO.out, Bool.false_and]; rfl)
        clear h1
        go_wp2
        try rw [Exit.noGoto_ret]
        go_ret
        exact ⟨rfl, by rw [HQ.out]; exact ⟨HX.out.a, HX.out.b, hne⟩, HX.out.kq⟩
end Go.Proofs.YtdgbililgkhjfaaDoor.Rs
namespace Go.Proofs.YtdgbililgkhjfaaDoor.Rs
open Go.RowKit Go.Proofs.YtdgbililgkhjfaaDoor.Crc Go.Proofs.YtdgbililgkhjfaaDoor.Codec Go.Proofs.YtdgbililgkhjfaaDoor.Pk Go.Proofs.YtdgbililgkhjfaaDoor.CrcWalk Go.Proofs.YtdgbililgkhjfaaDoor.Frame Go.Proofs.YtdgbililgkhjfaaDoor.Lk
set_option linter.unusedVariables false
set_option linter.unusedSimpArgs false
abbrev ST := 91
theorem infoK : (Tryd.prog.info? PT).map (fun i => (i.zero, i.size, i.bytes)) = some (some (.agg (pc K.zero nS nS)), 11, 120) := by kernel_rfl
/-- The cells of packets without lists. -/
def pks (l : List K) : List Value := l.flatMap fun k => (pc k nS nS).toList
theorem pks_app (l m : List K) : pks (l ++ m) = pks l ++ pks m := by unfold pks; rw [List.flatMap_append]
theorem pks_len (l : List K) : (pks l).length = l.length * 11 := by
  induction l with
  | nil => rfl
  | cons k t ih => unfold pks at *; rw [List.flatMap_cons, List.length_append, ih, List.length_cons]; show 11 + _ = _; omega
theorem pk_one (k : K) : ∀ u ∈ (pc k nS nS).toList, u.oneCell' = true := by
  intro u hu
  simp [pc] at hu
  rcases hu with rfl | rfl | rfl | rfl | rfl | rfl | rfl | rfl | rfl | rfl | rfl <;> simp [Value.oneCell']
theorem ownb {W W' : World} {B sz n : Nat} {e : TypeId} {v : Value} {xs : List Value} (h : W.ownsRow B e sz v n xs) (hk : Below W.heap.size W W') : W'.ownsRow B e sz v n xs := by
  refine ⟨h.1, ?_⟩
  rcases h.2 with h5 | ⟨b, cap, cur, e1, hb1, hb, hrest⟩
  · exact .inl h5
  · refine .inr ⟨b, cap, cur, e1, hb1, ?_, hrest⟩
    rw [hk.block b (Array.getElem?_eq_some_iff.1 hb).1]; exact hb
theorem ownf {W : World} {B q sz n : Nat} {e : TypeId} {v : Value} {xs : List Value} (h : W.ownsRow B e sz v n xs) (hq : q < B) (o : Nat) (u : Value) : (W.setCell ⟨q, o, none⟩ u).ownsRow B e sz v n xs := by
  refine ⟨h.1, ?_⟩
  rcases h.2 with h5 | ⟨g, cap, cur, e1, hb1, hg, hrest⟩
  · exact .inl h5
  · refine .inr ⟨g, cap, cur, e1, hb1, ?_, hrest⟩
    show (W.heap.modify q _)[g]? = _
    rw [Array.getElem?_modify, if_neg (by omega)]; exact hg
theorem wp_row_none {o : Oper} {a : Act} {w : World} {K : Act → World → Prop} {Q : Exit → Act → World → Prop} (hd : o.dst = none) (x y : Operand) (ho : o.op = .store PT x y) (g : Nat) (cells : Array Value) (hx : a.eval x = .pointer (some ⟨g, 0, none⟩)) (hy : a.eval y = .agg cells)
    (old : Array Value) (hg : w.heap[g]? = some (.cells old PT (0, 0))) (hi : (Tryd.prog.info? PT).map (·.size) = some cells.size) (hold : old.size = cells.size) (h1 : cells.all (·.oneCell') = true) (h : K a (w.setRow g cells)) : o.wp Tryd.prog a w K Q :=
  wp_store_row PT x y ho g cells hx hy PT old hg hi hold h1 (by rw [hd]; exact h)
theorem build_run {op : Oper} {ρ : Operand → Value} {w : World} (x : Operand) (k : K) (ho : op.op = .buildSlice ST 1 #[(0, x)]) (hx : ρ x = .agg (pc k nS nS)) :
    (execOp ρ op).run Tryd.prog w = .ok (.value (.slice (some ⟨w.heap.size, 0, none⟩) 1 1)) (w.alloc (.cells (pc k nS nS) PT)) := by
  unfold pc at hx
  unfold pc
  simp only [execOp, ho]
  go_simp
/-- A slice of one packet. -/
theorem build_pk {ops : Array Oper} {rest : List Oper} {op : Oper} {a : Act} {w : World} {Q : Exit → Act → World → Prop} (x : Operand) (k : K) (hgd : op.guard = none) (ho : op.op = .buildSlice ST 1 #[(0, x)])
    (hx : a.eval x = .agg (pc k nS nS)) (h : wpList Tryd.prog ops Q rest (a.put op.dst (.slice (some ⟨w.heap.size, 0, none⟩) 1 1)) (w.alloc (.cells (pc k nS nS) PT))) : wpList Tryd.prog ops Q (op :: rest) a w :=
  wpList_plain hgd fun _ hK => Draw.wp_value (build_run x k ho hx) (hK _ _ h)
/-- Within Out: the boxes of the machine, the count, the own count, and the list so far. -/
structure Bx (s gm gl : Nat) (m : M) (cn ow : Nat) (v : Value) (l : List K) (W : World) : Prop where
  m : Mb gm gl m W
  lm : gm < s
  ll : gl < s
  bm : Blk W s #[.pointer (some ⟨gm, 0, none⟩)] 76
  bc : Blk W (s + 1) #[.int .u64 cn] 22
  bo : Blk W (s + 2) #[.int .u64 ow] 22
  bl : Blk W (s + 3) #[v] ST
  own : W.ownsRow (s + 4) PT 11 v l.length (pks l)
theorem Bx.call {s gm gl : Nat} {m : M} {cn ow : Nat} {v : Value} {l : List K} {W W' : World} (h : Bx s gm gl m cn ow v l W) (hb : Below W.heap.size W W') : Bx s gm gl m cn ow v l W' :=
  ⟨h.m.call hb, h.lm, h.ll, (hb.block _ h.bm.lt).trans h.bm, (hb.block _ h.bc.lt).trans h.bc, (hb.block _ h.bo.lt).trans h.bo, (hb.block _ h.bl.lt).trans h.bl, ownb h.own hb⟩
theorem Bx.far {s gm gl : Nat} {m : M} {cn ow : Nat} {v : Value} {l : List K} {W : World} (h : Bx s gm gl m cn ow v l W) {q : Nat} (hq : s + 4 ≤ q) (off : Nat) (u : Value) (hown : ∀ k, v.ownBlock = some k → k ≠ q) : Bx s gm gl m cn ow v l (W.setCell ⟨q, off, none⟩ u) := by
  refine ⟨⟨far_blk h.m.a (by have := h.lm; omega) _ _, far_blk h.m.b (by have := h.ll; omega) _ _, h.m.ne⟩, h.lm, h.ll, far_blk h.bm (by omega) _ _, far_blk h.bc (by omega) _ _, far_blk h.bo (by omega) _ _, far_blk h.bl (by omega) _ _, ?_⟩
  refine ⟨h.own.1, ?_⟩
  rcases h.own.2 with h5 | ⟨g, cap, cur, e1, hb1, hg, hrest⟩
  · exact .inl h5
  · have hgq : g ≠ q := hown g (by rw [e1]; rfl)
    refine .inr ⟨g, cap, cur, e1, hb1, ?_, hrest⟩
    show (W.heap.modify q _)[g]? = _
    rw [Array.getElem?_modify, if_neg (fun e => hgq e.symm)]; exact hg
/-- The row of the list has grown: the boxes are as they were. -/
theorem Bx.grown {s gm gl : Nat} {m : M} {cn ow : Nat} {v : Value} {l : List K} {W W' : World} (h : Bx s gm gl m cn ow v l W) (hg : W.grownBy W' v.ownBlock) :
    Mb gm gl m W' ∧ (gm < s ∧ gl < s) ∧ Blk W' s #[.pointer (some ⟨gm, 0, none⟩)] 76 ∧ Blk W' (s + 1) #[.int .u64 cn] 22 ∧ Blk W' (s + 2) #[.int .u64 ow] 22 ∧ Blk W' (s + 3) #[v] ST := by
  have hl := h.own.lt
  have h1 := h.lm
  have h2 := h.ll
  exact ⟨⟨(hg.block gm h.m.a.lt (fun e => by have := (hl _ e.symm).1; omega)).trans h.m.a, (hg.block gl h.m.b.lt (fun e => by have := (hl _ e.symm).1; omega)).trans h.m.b, h.m.ne⟩, ⟨h1, h2⟩, (hg.block _ h.bm.lt (fun e => by have := (hl _ e.symm).1; omega)).trans h.bm,
    (hg.block _ h.bc.lt (fun e => by have := (hl _ e.symm).1; omega)).trans h.bc, (hg.block _ h.bo.lt (fun e => by have := (hl _ e.symm).1; omega)).trans h.bo, (hg.block _ h.bl.lt (fun e => by have := (hl _ e.symm).1; omega)).trans h.bl⟩
theorem Bx.listed {s gm gl : Nat} {m : M} {cn ow : Nat} {v v' : Value} {l : List K} {W : World}
    (h : Mb gm gl m W ∧ (gm < s ∧ gl < s) ∧ Blk W s #[.pointer (some ⟨gm, 0, none⟩)] 76 ∧ Blk W (s + 1) #[.int .u64 cn] 22 ∧ Blk W (s + 2) #[.int .u64 ow] 22 ∧ Blk W (s + 3) #[v] ST)
    (ho : W.ownsRow (s + 4) PT 11 v' l.length (pks l)) : Bx s gm gl m cn ow v' l (W.setCell ⟨s + 3, 0, none⟩ v') := by
  obtain ⟨hm, ⟨h1, h2⟩, a1, a2, a3, a4⟩ := h
  exact ⟨⟨far_blk hm.a (by omega) _ _, far_blk hm.b (by omega) _ _, hm.ne⟩, h1, h2, far_blk a1 (by omega) _ _, far_blk a2 (by omega) _ _, far_blk a3 (by omega) _ _, a4.set v', ownf ho (by omega) _ _⟩
set_option maxRecDepth 100000 in
set_option maxHeartbeats 4000000 in
/-- One more packet is told. -/
theorem add_any (kd : Int) (m : M) (cn ow s gm gl : Nat) (v : Value) (l : List K) (w : World) (h : Bx s gm gl m cn ow v l w) (hm : m.wf) (hl : l.length ≤ 1) (hc : cn < 18446744073709551616) (ho : ow < 18446744073709551616) :
    Calls Tryd.prog 85 #[.int .i64 kd, .pointer (some ⟨s, 0, none⟩), .pointer (some ⟨s + 1, 0, none⟩), .pointer (some ⟨s + 2, 0, none⟩), .pointer (some ⟨s + 3, 0, none⟩)] w fun r w' => r = .returned (.tuple #[]) ∧ ∃ v', Bx s gm gl m cn ow v' (l ++ [told m.l kd cn ow]) w' ∧ Below (s + 3) w w' := by
  obtain ⟨i0, hi, hz0, hz1, hz2⟩ := info_parts infoK
  have hs3 := h.bl.lt
  have HHD := Lib.hid (fun W (hb : Blk W gl (lc m.l) LT) => hdr_any m.l kd cn gl W hb hm.l)
  have HX0 := Lib.hid h
  clear hm h
  go_enter Tryd.func85, Tryd.ntmps85
  go_upto_region 0 with fail
  refine Draw.wp_region_prefix 8 (fun W => Bx s gm gl m cn ow v l W ∧ Below w.heap.size w W) (fun W W' => Below W.heap.size W W') (fun i W vv => match i with
      | 0 => vv = .pointer (some ⟨gm, 0, none⟩)
      | 1 => vv = .pointer (some ⟨gm, 0, none⟩)
      | 2 => vv = .pointer (some ⟨gm, 0, none⟩)
      | 3 => vv = .pointer (some ⟨gl, 0, none⟩)
      | 4 => vv = .int .i64 kd
      | 5 => vv = .int .u64 cn
      | 6 => vv = .agg (pc (m.l.hdr kd cn) nS nS)
      | _ => PtrT PT (pc K.zero nS nS) w.heap.size W vv) (by kernel_rfl) (by kernel_rfl) (by decide) rfl (by decide) (by decide) (by decide) ?_ ⟨HX0.out.call (Below.refl _ _).drew, (Below.refl _ _).drew⟩ ?_ [7, 8, 9, 10, 11, 12, 13, 6] (by rfl) 1 (by rfl) ?_
  · intro i W W' vv he hf
    match i with
    | n + 7 => exact PtrT.call hf he
    | 0 | 1 | 2 | 3 | 4 | 5 | 6 => exact hf
  · refine ⟨?_, ?_, ?_, ?_, ?_, ?_, ?_, ?_, trivial⟩
    all_goals intro ρ W hJ hc hf hKn
    · refine Draw.Goes.plain rfl ?_
      have h0 : ρ (.tmp 1) = .pointer (some ⟨s, 0, none⟩) := hKn.1.2 1 rfl
      have c : W.cell? ⟨s, 0, none⟩ = some (.pointer (some ⟨gm, 0, none⟩)) := hJ.1.bm.cell _ rfl
      refine Draw.Runs.value (w' := W) (v := .pointer (some ⟨gm, 0, none⟩)) ?_ ⟨hJ, Below.refl _ _, rfl⟩
      simp only [execOp]; go_simp
    · refine Draw.Goes.plain rfl ?_
      have h0 : ρ (.tmp 7) = .pointer (some ⟨gm, 0, none⟩) := hKn.1.get 0 7 rfl rfl
      refine Draw.Runs.value (w' := W) (v := .pointer (some ⟨gm, 0, none⟩)) ?_ ⟨hJ, Below.refl _ _, rfl⟩
      simp only [execOp]; go_simp
    · refine Draw.Goes.plain rfl ?_
      have h0 : ρ (.tmp 8) = .pointer (some ⟨gm, 0, none⟩) := hKn.1.get 1 8 rfl rfl
      refine Draw.Runs.value (w' := W) (v := .pointer (some ⟨gm, 0, none⟩)) ?_ ⟨hJ, Below.refl _ _, rfl⟩
      simp only [execOp]; go_simp
    · refine Draw.Goes.plain rfl ?_
      have h0 : ρ (.tmp 9) = .pointer (some ⟨gm, 0, none⟩) := hKn.1.get 2 9 rfl rfl
      have c : W.cell? ⟨gm, 0, none⟩ = some (.pointer (some ⟨gl, 0, none⟩)) := hJ.1.m.a.cell _ rfl
      refine Draw.Runs.value (w' := W) (v := .pointer (some ⟨gl, 0, none⟩)) ?_ ⟨hJ, Below.refl _ _, rfl⟩
      simp only [execOp]; go_simp
    · refine Draw.Goes.plain rfl ?_
      exact Draw.Runs.value (w' := W) (v := ρ (.tmp 0)) rfl ⟨hJ, Below.refl _ _, hKn.1.2 0 rfl⟩
    · refine Draw.Goes.plain rfl ?_
      have h0 : ρ (.tmp 2) = .pointer (some ⟨s + 1, 0, none⟩) := hKn.1.2 2 rfl
      have c : W.cell? ⟨s + 1, 0, none⟩ = some (.int .u64 cn) := hJ.1.bc.cell _ rfl
      refine Draw.Runs.value (w' := W) (v := .int .u64 cn) ?_ ⟨hJ, Below.refl _ _, rfl⟩
      simp only [execOp]; go_simp
    · refine Draw.Goes.plain rfl ?_
      have h0 : ρ (.tmp 10) = .pointer (some ⟨gl, 0, none⟩) := hKn.1.get 3 10 rfl rfl
      have h1 : ρ (.tmp 11) = .int .i64 kd := hKn.1.get 4 11 rfl rfl
      have h2 : ρ (.tmp 12) = .int .u64 cn := hKn.1.get 5 12 rfl rfl
      refine Draw.Runs.enter (f := 40) (args := #[.pointer (some ⟨gl, 0, none⟩), .int .i64 kd, .int .u64 cn]) ?_ ((HHD.out W hJ.1.m.b).mono fun e W' ⟨he, hb⟩ => ⟨_, he, ⟨hJ.1.call hb, hJ.2.trans (Below.mono (hb) hJ.2.size)⟩, hb, rfl⟩)
      simp only [execOp]; go_simp
    · refine Draw.Goes.plain rfl ?_
      refine Draw.Runs.value (w' := W.alloc (.cells (pc K.zero nS nS) PT)) (v := .pointer (some ⟨W.heap.size, 0, none⟩)) ?_ ⟨⟨hJ.1.call (bel_alloc _ _), hJ.2.trans ((bel_alloc _ _).mono hJ.2.size)⟩, bel_alloc _ _, W.heap.size, rfl, heap_alloc_new W _, hJ.2.size⟩
      simp only [execOp, pc, K.zero]; go_simp
  · intro u W hJ hf
    obtain ⟨gg6, r6, hb6⟩ : PtrT PT (pc K.zero nS nS) w.heap.size W (u 6) := hf 7 _ 6 (by decide) rfl rfl
    have r13 : u 13 = .agg (pc (m.l.hdr kd cn) nS nS) := hf 6 _ 13 (by decide) rfl rfl
    simp only [List.foldl_cons, List.foldl_nil, List.setIfInBounds_toArray, List.set_cons_succ, List.set_cons_zero, r6, r13]
    have hX1 := hJ.1
    have hB1 := hJ.2
    clear hJ hf
    refine Draw.wpAny_one (i := 8) (by kernel_rfl) rfl rfl ?_
    refine wp_row_none rfl (.tmp 6) (.tmp 13) rfl gg6 (pc (m.l.hdr kd cn) nS nS) rfl rfl (pc K.zero nS nS) hb6.1 (pc_info _ _ _) rfl (pc_all _ slnil) ?_
    refine Draw.wpAny_end (by kernel_rfl) ?_
    have hg6 : Blk (W.setRow gg6 (pc (m.l.hdr kd cn) nS nS)) gg6 (pc (m.l.hdr kd cn) nS nS) PT := setRow_heap _ _ _ _ _ _ hb6.1
    have hB2 : Below w.heap.size w (W.setRow gg6 (pc (m.l.hdr kd cn) nS nS)) := below_setRow hB1 hb6.2 _
    have hX2 := HX0.out.call hB2
    generalize W.setRow gg6 (pc (m.l.hdr kd cn) nS nS) = W2 at *
    have hge6 : w.heap.size ≤ gg6 := hb6.2
    clear hX1 hB1 hb6
    have c3 : W2.cell? ⟨s + 2, 0, none⟩ = some (.int .u64 ow) := hX2.bo.cell _ rfl
    have c2 : W2.cell? ⟨s + 1, 0, none⟩ = some (.int .u64 cn) := hX2.bc.cell _ rfl
    have c5 := hg6.cell (off := 5) _ rfl
    have f5 : W2.frozen? ⟨gg6, 5, none⟩ = false := hg6.free
    have hs6 : s + 4 ≤ gg6 := by omega
    have HS5 := Lib.hid (show ∀ x, x = max ow cn → Blk (W2.setCell ⟨gg6, 5, none⟩ (.int .u64 x)) gg6 (pc (told m.l kd cn ow) nS nS) PT ∧ Bx s gm gl m cn ow v l (W2.setCell ⟨gg6, 5, none⟩ (.int .u64 x)) ∧ Below w.heap.size w (W2.setCell ⟨gg6, 5, none⟩ (.int .u64 x)) by
      rintro x rfl
      exact ⟨hg6.set (off := 5) _, hX2.far hs6 _ _ (fun k e => by have := (HX0.out.own.lt k e).2; omega), hB2.setCell (p := ⟨gg6, 5, none⟩) hge6 _⟩)
    clear hX2 hB2 hg6
    obtain ⟨mx, hmx⟩ : ∃ x, x = max ow cn := ⟨_, rfl⟩
    go_upto_region 1 with fail
    go_cut [] (fun wx => Blk wx gg6 (pc (told m.l kd cn ow) nS nS) PT ∧ Bx s gm gl m cn ow v l wx ∧ Below w.heap.size w wx)
    case first =>
      by_cases hlt : ow < cn
      · have HM := Lib.hid (show cn = max ow cn by omega)
        clear hmx
        go_wp2
        go_meet
        exact HS5.out _ HM.out
      · have HM := Lib.hid (show ow = max ow cn by omega)
        clear hmx
        go_wp2
        go_meet
        exact HS5.out _ HM.out
    case rest =>
    obtain ⟨hg7, hX7, hB7⟩ := hcut
    clear HS5 c3 c2 c5 f5 hmx
    obtain ⟨tk, htk⟩ : ∃ x, x = told m.l kd cn ow := ⟨_, rfl⟩
    rw [← htk] at hg7
    have HTK := Lib.hid htk
    have c4 : wc.cell? ⟨s + 3, 0, none⟩ = some v := hX7.bl.cell _ rfl
    have f4 : wc.frozen? ⟨s + 3, 0, none⟩ = false := hX7.bl.free
    clear htk hc ho
    have hn8 : Blk (wc.alloc (.cells (pc tk nS nS) PT)) wc.heap.size (pc tk nS nS) PT := heap_alloc_new wc _
    have hX8 := hX7.call (bel_alloc wc (.cells (pc tk nS nS) PT))
    have hB8 : Below w.heap.size w (wc.alloc (.cells (pc tk nS nS) PT)) := hB7.alloc hB7.size _
    have hsz8 : (wc.alloc (.cells (pc tk nS nS) PT)).heap.size = wc.heap.size + 1 := by simp
    have hszc := hB7.size
    have hlen1 : l.length + 1 ≤ maxLen := by unfold maxLen; omega
    go_wp2_with (first | (refine load_pk (.tmp 6) gg6 tk _ _ hg7 rfl rfl rfl ?_) | (refine build_pk (.tmp 19) tk rfl rfl rfl ?_) | (at_builtin; refine wpList_append_lies _ rfl (.tmp 18) (.tmp 20) ST rfl (s + 4) PT i0 _ 11 120 Tryd.underlying91 hi hz0 hz1 hz2 rfl (by decide) v l.length (pks l) rfl hX8.own ⟨wc.heap.size, 0, none⟩ 1 1 (pc tk nS nS).toList rfl rfl (World.news_of_block hn8) (pk_one tk) (by decide) hlen1 (by omega) (by omega) _ rfl ?_))
    intro g cap w3 hown3 hgrow hat hlt3
    have hown := hX8.own
    have hX9 := hX8.grown hgrow
    have hB9 : Below (s + 3) w w3 := (hB8.mono (by omega)).grown hgrow (by omega) (fun k e => by have := (hown.lt k e).1; omega)
    have hX10 : Bx s gm gl m cn ow (.slice (some ⟨g, 0, none⟩) (l.length + 1) cap) (l ++ [tk]) (w3.setCell ⟨s + 3, 0, none⟩ (.slice (some ⟨g, 0, none⟩) (l.length + 1) cap)) := Bx.listed hX9 (by rw [List.length_append, pks_app]; exact hown3)
    have hB10 : Below (s + 3) w (w3.setCell ⟨s + 3, 0, none⟩ (.slice (some ⟨g, 0, none⟩) (l.length + 1) cap)) := hB9.setCell (p := ⟨s + 3, 0, none⟩) (Nat.le_refl _) _
    have c4' : w3.cell? ⟨s + 3, 0, none⟩ = some v := hX9.2.2.2.2.2.cell _ rfl
    have f4' : w3.frozen? ⟨s + 3, 0, none⟩ = false := hX9.2.2.2.2.2.free
    have HT := Lib.hid hX10
    have HB := Lib.hid hB10
    clear hX10 hB10 hX9 hB9 hX8 hX7 hown hown3 hgrow hB7 hB8 hg7 hn8
    go_wp2
    go_end0
    exact ⟨rfl, _, HTK.out ▸ HT.out, HB.out⟩
theorem res_slice {fn : Func} {p : Tmp} (h : fn.results = #[.cell p ST]) (tmps : Array Value) (w : World) (g : Nat) (v : Value) (hp : tmps.getD p undef = .pointer (some ⟨g, 0, none⟩)) (hc : w.cell? ⟨g, 0, none⟩ = some v) :
    (results fn tmps).run Tryd.prog w = .ok v w := by
  have hp' : tmps[p]?.getD undef = .pointer (some ⟨g, 0, none⟩) := by simpa using hp
  simp only [results, h]
  go_simp
theorem own_slice {W : World} {B sz n : Nat} {e : TypeId} {v : Value} {xs : List Value} (h : W.ownsRow B e sz v n xs) : ∃ b m c, v = .slice b m c := by
  rcases h.2 with ⟨h1, _⟩ | ⟨g, cap, cur, e1, _⟩
  · exact ⟨_, _, _, h1⟩
  · exact ⟨_, _, _, e1⟩
theorem Bx.mset {s gm gl : Nat} {m m' : M} {cn ow : Nat} {v : Value} {l : List K} {W : World} (h : Bx s gm gl m cn ow v l W) (off : Nat) (u : Value) (hs : (mc m gl).setIfInBounds off u = mc m' gl) (hl : m'.l = m.l) : Bx s gm gl m' cn ow v l (W.setCell ⟨gm, off, none⟩ u) := by
  have h1 := h.lm
  have h2 := h.ll
  exact ⟨⟨hs ▸ h.m.a.set u, by rw [hl]; exact far_blk h.m.b h.m.ne _ _, h.m.ne⟩, h1, h2, far_blk h.bm (by omega) _ _, far_blk h.bc (by omega) _ _, far_blk h.bo (by omega) _ _, far_blk h.bl (by omega) _ _, ownf h.own (by omega) _ _⟩
theorem ownk {W W' : World} {B g sz n : Nat} {e : TypeId} {v : Value} {xs : List Value} (h : W.ownsRow B e sz v n xs) (hk : Kp W.heap.size g W W') (hg : g < B) : W'.ownsRow B e sz v n xs := by
  refine ⟨h.1, ?_⟩
  rcases h.2 with h5 | ⟨b, cap, cur, e1, hb1, hb, hrest⟩
  · exact .inl h5
  · exact .inr ⟨b, cap, cur, e1, hb1, (hk.block b (Array.getElem?_eq_some_iff.1 hb).1 (by omega)).trans hb, hrest⟩
theorem Bx.link {s gm gl : Nat} {m : M} {l' : L} {cn ow : Nat} {v : Value} {l : List K} {W W' : World} (h : Bx s gm gl m cn ow v l W) (hb : Blk W' gl (lc l') LT) (hk : Kp W.heap.size gl W W') : Bx s gm gl { m with l := l' } cn ow v l W' := by
  have h1 := h.lm
  have h2 := h.ll
  exact ⟨⟨(hk.block _ h.m.a.lt h.m.ne).trans h.m.a, hb, h.m.ne⟩, h1, h2, (hk.block _ h.bm.lt (by omega)).trans h.bm, (hk.block _ h.bc.lt (by omega)).trans h.bc, (hk.block _ h.bo.lt (by omega)).trans h.bo, (hk.block _ h.bl.lt (by omega)).trans h.bl, ownk h.own hk (by omega)⟩
set_option maxRecDepth 100000 in
set_option maxHeartbeats 4000000 in
/-- What 'Out' tells. -/
theorem out_any (m : M) (now cn ow gm gl : Nat) (w : World) (h : Mb gm gl m w) (hm : m.wf) (hn : now < 18446744073709551616) (hc : cn < 18446744073709551616) (ho : ow < 18446744073709551616) :
    Calls Tryd.prog 51 #[.pointer (some ⟨gm, 0, none⟩), .int .u64 now, .int .u64 cn, .int .u64 ow] w fun r w' => ∃ v, r = .returned v ∧ Mb gm gl (m.outs now) w' ∧ w'.ownsRow (w.heap.size + 4) PT 11 v (m.out now cn ow).length (pks (m.out now cn ow)) ∧ Kq w.heap.size gm gl w w' := by
  have gmlt := h.a.lt
  have gllt := h.b.lt
  have hX1 : Bx w.heap.size gm gl m cn ow (.slice none 0 0) [] ((((w.alloc (.cells #[.pointer (some ⟨gm, 0, none⟩)] 76)).alloc (.cells #[.int .u64 cn] 22)).alloc (.cells #[.int .u64 ow] 22)).alloc (.cells #[.slice none 0 0] ST)) := by
    have e1 : (w.alloc (.cells #[.pointer (some ⟨gm, 0, none⟩)] 76)).heap.size = w.heap.size + 1 := by simp
    have e2 : ((w.alloc (.cells #[.pointer (some ⟨gm, 0, none⟩)] 76)).alloc (.cells #[.int .u64 cn] 22)).heap.size = w.heap.size + 2 := by simp
    have e3 : (((w.alloc (.cells #[.pointer (some ⟨gm, 0, none⟩)] 76)).alloc (.cells #[.int .u64 cn] 22)).alloc (.cells #[.int .u64 ow] 22)).heap.size = w.heap.size + 3 := by simp
    refine ⟨⟨(((h.a.alloc _).alloc _).alloc _).alloc _, (((h.b.alloc _).alloc _).alloc _).alloc _, h.ne⟩, gmlt, gllt, Blk.alloc (Blk.alloc (Blk.alloc (heap_alloc_new w _) _) _) _, ?_, ?_, ?_, ?_⟩
    · rw [← e1]; exact Blk.alloc (Blk.alloc (heap_alloc_new _ _) _) _
    · rw [← e2]; exact Blk.alloc (heap_alloc_new _ _) _
    · rw [← e3]; exact heap_alloc_new _ _
    · exact ⟨rfl, .inl ⟨rfl, rfl⟩⟩
  have hB1 : Below w.heap.size w ((((w.alloc (.cells #[.pointer (some ⟨gm, 0, none⟩)] 76)).alloc (.cells #[.int .u64 cn] 22)).alloc (.cells #[.int .u64 ow] 22)).alloc (.cells #[.slice none 0 0] ST)) :=
    ((((Below.refl _ w).alloc (Nat.le_refl _) _).alloc (by simp) _).alloc (by simp; omega) _).alloc (by simp; omega) _
  have HX := Lib.hid hX1
  have HB := Lib.hid hB1
  have HM := Lib.hid h
  have HW := Lib.hid hm
  have HIS := Lib.hid (fun W (d : Mb gm gl m W) => mis_any m gm gl W d)
  clear hX1 hB1 h hm
  have c0 : ((((w.alloc (.cells #[.pointer (some ⟨gm, 0, none⟩)] 76)).alloc (.cells #[.int .u64 cn] 22)).alloc (.cells #[.int .u64 ow] 22)).alloc (.cells #[.slice none 0 0] ST)).cell? ⟨w.heap.size, 0, none⟩ = some (.pointer (some ⟨gm, 0, none⟩)) := HX.out.bm.cell _ rfl
  go_enter Tryd.func51, Tryd.ntmps51
  go_upto_region 1 with fail
  change Code.wp _ _ _ _ ((((w.alloc (.cells #[.pointer (some ⟨gm, 0, none⟩)] 76)).alloc (.cells #[.int .u64 cn] 22)).alloc (.cells #[.int .u64 ow] 22)).alloc (.cells #[.slice none 0 0] ST))
  generalize ((((w.alloc (.cells #[.pointer (some ⟨gm, 0, none⟩)] 76)).alloc (.cells #[.int .u64 cn] 22)).alloc (.cells #[.int .u64 ow] 22)).alloc (.cells #[.slice none 0 0] ST)) = w1 at *
  go_wp2_with fail
  refine (HIS.out _ HX.out.m).mono ?_
  rintro r w' ⟨rfl, rfl⟩
  have c3 : w1.cell? ⟨gm, 3, none⟩ = some (.bool m.owes) := HX.out.m.a.cell _ rfl
  have HADD := Lib.hid (fun (kd : Int) (m' : M) (hm : m'.wf) v l W (hX : Bx w.heap.size gm gl m' cn ow v l W) (hl : l.length ≤ 1) => add_any kd m' cn ow w.heap.size gm gl v l W hX hm hl hc ho)
  obtain ⟨l1, hl1⟩ : ∃ x, x = (if m.owes then [told m.l 2 cn ow] else []) := ⟨_, rfl⟩
  have HL1 := Lib.hid hl1
  have HLE1 := Lib.hid (show l1.length ≤ 1 by rw [hl1]; split <;> simp)
  clear hl1 hc ho
  go_upto_if 17 with fail
  go_cut [] (fun wx => ∃ v, Bx w.heap.size gm gl { m with owes := false } cn ow v l1 wx ∧ Kq w.heap.size gm gl w wx)
  case first =>
    cases hw : m.owes with
    | true =>
      have HE := Lib.hid (show [told m.l 2 cn ow] = l1 by rw [HL1.out, hw]; rfl)
      clear hw c3
      go_wp2_with fail
      refine (HADD.out 2 m HW.out _ _ _ HX.out (Nat.zero_le _)).mono ?_
      rintro r w2 ⟨rfl, v2, hX2, hB2⟩
      have c0' : w2.cell? ⟨w.heap.size, 0, none⟩ = some (.pointer (some ⟨gm, 0, none⟩)) := hX2.bm.cell _ rfl
      have c3' := hX2.m.a.cell (off := 3) _ rfl
      have f3' : w2.frozen? ⟨gm, 3, none⟩ = false := hX2.m.a.free
      have HX2 := Lib.hid (hX2.mset (m' := { m with owes := false }) 3 (.bool false) rfl rfl)
      have HK2 := Lib.hid (((kq_below HB.out).trans (kq_below (hB2.mono (by omega)))).trans (kq_kp' (q := gl) ((Kp.refl w.heap.size gm w2).setCell ⟨gm, 3, none⟩ rfl (.bool false))))
      clear hX2 hB2 c0
      go_wp2
      go_meet
      exact ⟨v2, HE.out ▸ HX2.out, HK2.out⟩
    | false =>
      have HE := Lib.hid (show [] = l1 by rw [HL1.out, hw]; rfl)
      have HQ := Lib.hid (show { m with owes := false } = m by rw [← hw])
      clear hw c3
      go_wp2
      go_meet
      exact ⟨_, by rw [HQ.out, ← HE.out]; exact HX.out, kq_below HB.out⟩
  case rest =>
  obtain ⟨v1, hX1, hK1⟩ := hcut
  clear c0 c3 HX HB HM
  have HWL := Lib.hid HW.out.l
  obtain ⟨S, hS⟩ : ∃ S, S = m.says now := ⟨_, rfl⟩
  have HS := Lib.hid hS
  have c0 : wc.cell? ⟨w.heap.size, 0, none⟩ = some (.pointer (some ⟨gm, 0, none⟩)) := hX1.bm.cell _ rfl
  have c1 : wc.cell? ⟨gm, 1, none⟩ = some (.int .i64 m.st) := hX1.m.a.cell _ rfl
  have c2 : wc.cell? ⟨gm, 0, none⟩ = some (.pointer (some ⟨gl, 0, none⟩)) := hX1.m.a.cell _ rfl
  have HX := Lib.hid hX1
  have HK := Lib.hid hK1
  have HDU := Lib.hid (due_any m.l gl now wc hX1.m.b HW.out.l hn)
  clear hX1 hK1 hS
  go_upto_region 7 with fail
  go_cut [35] (fun z wx => z = .bool S ∧ Bx w.heap.size gm gl { m with owes := false } cn ow v1 l1 wx ∧ Kq w.heap.size gm gl w wx)
  case first =>
    by_cases h1 : m.st = 1
    · have t1 : ((m.st : Int) == 1) = true := by rw [h1]; rfl
      have HQ := Lib.hid (show S = m.l.due now by rw [HS.out]; unfold M.says; rw [decide_eq_true h1, Bool.true_and])
      clear h1
      go_wp2_with fail
      refine HDU.out.mono ?_
      rintro r w2 ⟨rfl, hb⟩
      have HX2 := Lib.hid (HX.out.call hb)
      have HK2 := Lib.hid (HK.out.trans (kq_below (hb.mono HK.out.size)))
      clear hb
      go_wp2
      go_meet
      exact ⟨by rw [HQ.out], HX2.out, HK2.out⟩
    · have t1 : ((m.st : Int) == 1) = false := by rw [beq_eq_false_iff_ne]; omega
      have HQ := Lib.hid (show S = false by rw [HS.out]; unfold M.says; rw [decide_eq_false h1, Bool.false_and])
      clear h1
      go_wp2
      go_meet
      exact ⟨by rw [HQ.out], HX.out, HK.out⟩
  case rest =>
  obtain ⟨rfl, hX2, hK2⟩ := hcut
  clear c0 c1 c2 HDU HX HK
  have HX := Lib.hid hX2
  have HK := Lib.hid hK2
  have c0 : wc.cell? ⟨w.heap.size, 0, none⟩ = some (.pointer (some ⟨gm, 0, none⟩)) := hX2.bm.cell _ rfl
  clear hX2 hK2
  go_upto_if 35 with fail
  go_cut [] (fun wx => ∃ v, Bx w.heap.size gm gl (m.outs now) cn ow v (m.out now cn ow) wx ∧ Kq w.heap.size gm gl w wx)
  case first =>
    cases S with
    | true =>
      have HO := Lib.hid (show m.outs now = { { m with owes := false } with l := m.l.sent now } by unfold M.outs; rw [← HS.out]; rfl)
      have HL := Lib.hid (show m.out now cn ow = l1 ++ [told m.l 1 cn ow] by unfold M.out; rw [← HS.out, HL1.out]; rfl)
      have HW0 := Lib.hid (show M.wf { m with owes := false } from ⟨HW.out.l, HW.out.st, HW.out.goal⟩)
      go_wp2_with fail
      refine (HADD.out 1 { m with owes := false } HW0.out _ _ _ HX.out HLE1.out).mono ?_
      rintro r w2 ⟨rfl, v2, hX2, hB2⟩
      have c0' : w2.cell? ⟨w.heap.size, 0, none⟩ = some (.pointer (some ⟨gm, 0, none⟩)) := hX2.bm.cell _ rfl
      have c2' : w2.cell? ⟨gm, 0, none⟩ = some (.pointer (some ⟨gl, 0, none⟩)) := hX2.m.a.cell _ rfl
      have HSE := Lib.hid (sent_any m.l gl now w2 hX2.m.b HWL.out hn)
      have HK2 := Lib.hid (HK.out.trans (kq_below (p := gm) (q := gl) (hB2.mono (Nat.le_add_right _ _))))
      have HX2 := Lib.hid hX2
      clear hX2 hB2 c0
      go_wp2_with fail
      refine HSE.out.mono ?_
      rintro r w3 ⟨rfl, hb3, hk3⟩
      have HX3 := Lib.hid (HX2.out.link hb3 hk3)
      have HK3 := Lib.hid (HK2.out.trans (kq_kp (p := gm) (hk3.mono HK2.out.size)))
      clear hb3 hk3
      go_wp2
      go_meet
      exact ⟨v2, by rw [HO.out, HL.out]; exact HX3.out, HK3.out⟩
    | false =>
      have HO := Lib.hid (show m.outs now = { m with owes := false } by unfold M.outs; rw [← HS.out]; rfl)
      have HL := Lib.hid (show m.out now cn ow = l1 by unfold M.out; rw [← HS.out, HL1.out]; exact List.append_nil _)
      go_wp2
      go_meet
      exact ⟨v1, by rw [HO.out, HL.out]; exact HX.out, HK.out⟩
  case rest =>
  obtain ⟨v3, hX3, hK3⟩ := hcut
  clear c0 HX HK
  obtain ⟨b3, n3, k3, rfl⟩ := own_slice hX3.own
  have c8 : wc.cell? ⟨w.heap.size + 1 + 1 + 1, 0, none⟩ = some (.slice b3 n3 k3) := hX3.bl.cell _ rfl
  have f8 : wc.frozen? ⟨w.heap.size + 1 + 1 + 1, 0, none⟩ = false := hX3.bl.free
  have hb8 : Blk (wc.setCell ⟨w.heap.size + 1 + 1 + 1, 0, none⟩ (.slice b3 n3 k3)) (w.heap.size + 3) #[(.slice b3 n3 k3)] ST := hX3.bl.set (.slice b3 n3 k3)
  have c8' : (wc.setCell ⟨w.heap.size + 1 + 1 + 1, 0, none⟩ (.slice b3 n3 k3)).cell? ⟨w.heap.size + 1 + 1 + 1, 0, none⟩ = some (.slice b3 n3 k3) := hb8.cell _ rfl
  have HF := Lib.hid (show Mb gm gl (m.outs now) (wc.setCell ⟨w.heap.size + 1 + 1 + 1, 0, none⟩ (.slice b3 n3 k3)) ∧ (wc.setCell ⟨w.heap.size + 1 + 1 + 1, 0, none⟩ (.slice b3 n3 k3)).ownsRow (w.heap.size + 4) PT 11 (.slice b3 n3 k3) (m.out now cn ow).length (pks (m.out now cn ow)) ∧ Kq w.heap.size gm gl w (wc.setCell ⟨w.heap.size + 1 + 1 + 1, 0, none⟩ (.slice b3 n3 k3)) from
    ⟨⟨far_blk hX3.m.a (by omega) _ _, far_blk hX3.m.b (by omega) _ _, hX3.m.ne⟩, ownf hX3.own (by omega) _ _, hK3.trans (kq_below ((Below.refl _ wc).setCell (p := ⟨w.heap.size + 1 + 1 + 1, 0, none⟩) (by show w.heap.size ≤ w.heap.size + 1 + 1 + 1; omega) (.slice b3 n3 k3)))⟩)
  clear hX3 hK3 hb8
  go_wp2
  exact bodyPost_ret (res_slice rfl _ _ (w.heap.size + 1 + 1 + 1) _ rfl c8') rfl ⟨_, rfl, HF.out⟩
end Go.Proofs.YtdgbililgkhjfaaDoor.Rs
namespace Go.Proofs.YtdgbililgkhjfaaDoor.Rs
open Go.RowKit Go.Proofs.YtdgbililgkhjfaaDoor.Crc Go.Proofs.YtdgbililgkhjfaaDoor.Codec Go.Proofs.YtdgbililgkhjfaaDoor.Pk Go.Proofs.YtdgbililgkhjfaaDoor.CrcWalk Go.Proofs.YtdgbililgkhjfaaDoor.Frame
open Go.Proofs.YtdgbililgkhjfaaDoor.Lk (range_below)
set_option linter.unusedVariables false
set_option linter.unusedSimpArgs false
abbrev AT := 80
/-- An act. -/
structure Ac where
  what : Nat
  k : K
  bi : Option Addr
  ni : Nat
  ci : Nat
  bp : Option Addr
  np : Nat
  cp : Nat
  now : Nat
  cn : Nat
  ow : Nat
def Ac.vi (x : Ac) : Value := .slice x.bi x.ni x.ci
def Ac.vp (x : Ac) : Value := .slice x.bp x.np x.cp
def Ac.cells (x : Ac) : Array Value := #[.int .u8 x.what, .int .i64 x.k.kind, .int .u8 x.k.player, .int .u64 x.k.epoch, .int .u64 x.k.dest, .int .u64 x.k.count, .int .u64 x.k.own, .int .u64 x.k.first, .slice x.bi x.ni x.ci, .slice x.bp x.np x.cp, .int .u64 x.k.frame, .int .u64 x.k.sum, .int .u64 x.now, .int .u64 x.cn, .int .u64 x.ow]
/-- The numbers are what their types bear; short lists lie in memory. -/
structure Ac.ok (W : World) (x : Ac) : Prop where
  what : x.what < 256
  k : x.k.wf
  now : x.now < 18446744073709551616
  cn : x.cn < 18446744073709551616
  ow : x.ow < 18446744073709551616
  ins : x.ni ≤ 200 → Ins W x.vi x.k.ins
  prs : x.np ≤ 200 → Prs W x.vp x.k.prs
/-- Few inputs and pairs? -/
def Ac.few (x : Ac) : Prop := x.ni ≤ 200 ∧ x.np ≤ 200
instance (x : Ac) : Decidable x.few := by unfold Ac.few; infer_instance
/-- A slice of acts. -/
def Acts (w : World) (v : Value) (xs : List Ac) : Prop := ∃ b c, v = .slice b xs.length c ∧ xs.length ≤ maxLen ∧ ∀ i (h : i < xs.length), ∃ g o, b = some ⟨g, o, none⟩ ∧ g < w.heap.size ∧ w.rangeAt g (o + i * 15) (xs[i]).cells.toList ∧ (xs[i]).ok w
theorem Ac.ok.below {w w' : World} {x : Ac} (h : x.ok w) (hb : Below w.heap.size w w') : x.ok w' := ⟨h.what, h.k, h.now, h.cn, h.ow, fun q => (h.ins q).below hb, fun q => (h.prs q).below hb⟩
theorem Acts.below {w w' : World} {v : Value} {xs : List Ac} (h : Acts w v xs) (hb : Below w.heap.size w w') : Acts w' v xs := by
  obtain ⟨b, c, rfl, hl, hc⟩ := h
  refine ⟨b, c, rfl, hl, fun i hi => ?_⟩
  obtain ⟨g, o, h1, h2, h3, h4⟩ := hc i hi
  exact ⟨g, o, h1, Nat.lt_of_lt_of_le h2 hb.size, range_below h3 h2 hb, h4.below hb⟩
theorem Ac.cells_pk (x : Ac) {w : World} {g o : Nat} (h : w.rangeAt g o x.cells.toList) : w.rangeAt g (o + 1) (pc x.k x.vi x.vp).toList := fun j v hv => by
  have hj : j < 11 := by
    have := (List.getElem?_eq_some_iff.1 hv).1
    exact this
  rw [Nat.add_assoc]
  refine h (1 + j) v ?_
  rw [← hv]
  match j, hj with
  | 0, _ | 1, _ | 2, _ | 3, _ | 4, _ | 5, _ | 6, _ | 7, _ | 8, _ | 9, _ | 10, _ => rfl
set_option maxRecDepth 100000 in
set_option maxHeartbeats 1000000 in
/-- What 'few' answers. -/
theorem fewr_any (v : Value) (xs : List Ac) (w : World) (h : Acts w v xs) :
    Calls Tryd.prog 42 #[v] w fun r w' => r = .returned (.bool (decide (xs.length ≤ 80 ∧ ∀ x ∈ xs, x.few))) ∧ w = w' := by
  obtain ⟨b, c, rfl, hlen, hcell⟩ := h
  obtain ⟨X, hX⟩ : ∃ X, X = decide (xs.length ≤ 80 ∧ ∀ x ∈ xs, x.few) := ⟨_, rfl⟩
  rw [← hX]
  have HX := Lib.hid hX
  have HCL := Lib.hid hcell
  unfold maxLen at hlen
  clear hcell hX
  go_enter Tryd.func42, Tryd.ntmps42
  go_wp2
  go_loop [3] (fun i => ∃ j : Nat, j ≤ xs.length ∧ j ≤ 90 ∧ i = .int .i64 j ∧ ∀ x ∈ xs.take j, x.few) (fun i => xs.length - (intOf i).toNat)
  case atStart => exact ⟨0, Nat.zero_le _, by decide, rfl, by simp⟩
  case round =>
    obtain ⟨j, hj, hj9, rfl, hfew⟩ := hrel
    by_cases hlt : j < xs.length
    · by_cases h90 : j < 90
      · obtain ⟨g, o, rfl, ha, hr, hok⟩ := HCL.out j hlt
        have hc8 : w.cell? ⟨g, o + j * 15 + 1 + 7, none⟩ = some (.slice (xs[j]).bi (xs[j]).ni (xs[j]).ci) := hr 8 _ rfl
        have hc9 : w.cell? ⟨g, o + j * 15 + 1 + 8, none⟩ = some (.slice (xs[j]).bp (xs[j]).np (xs[j]).cp) := hr 9 _ rfl
        have hsn : ∀ y ∈ xs.take (j + 1), y ∈ xs.take j ∨ y = xs[j] := fun y hy => by
          rw [List.take_succ_eq_append_getElem hlt] at hy
          exact (List.mem_append.1 hy).imp id List.mem_singleton.1
        have hmem : xs[j] ∈ xs := List.getElem_mem _
        generalize xs[j] = x at *
        have HSN := Lib.hid hsn
        have HM := Lib.hid hmem
        have HF := Lib.hid hfew
        clear hsn hmem hfew hr hok
        by_cases h1 : x.ni ≤ 200
        · have t1 : decide ((x.ni : Int) > 200) = false := decide_eq_false (by omega)
          by_cases h2 : x.np ≤ 200
          · have t2 : decide ((x.np : Int) > 200) = false := decide_eq_false (by omega)
            go_wp2
            go_round
            case rel => exact ⟨j + 1, by omega, by omega, by go_num, fun y hy => (HSN.out y hy).elim (HF.out y) (fun e => e ▸ ⟨h1, h2⟩)⟩
            case measure => simp [intOf]; omega
          · have t2 : decide ((x.np : Int) > 200) = true := decide_eq_true (by omega)
            go_wp2
            go_ret
            exact ⟨by rw [HX.out, decide_eq_false (fun hh => h2 (hh.2 x HM.out).2)]; rfl, rfl⟩
        · have t1 : decide ((x.ni : Int) > 200) = true := decide_eq_true (by omega)
          go_wp2
          go_ret
          exact ⟨by rw [HX.out, decide_eq_false (fun hh => h1 (hh.2 x HM.out).1)]; rfl, rfl⟩
      · have hno : decide ((xs.length : Int) ≤ 80) = false := decide_eq_false (by omega)
        have HQ := Lib.hid (show X = false from HX.out.trans (decide_eq_false fun hh => by omega))
        clear hfew
        go_wp2
        go_ret
        exact ⟨by rw [HQ.out]; simp, rfl⟩
    · obtain rfl : j = xs.length := by omega
      rw [List.take_length] at hfew
      have HQ := Lib.hid (show X = decide (xs.length ≤ 80) from HX.out.trans (decide_eq_decide.2 ⟨fun hh => hh.1, fun hh => ⟨hh, hfew⟩⟩))
      clear hfew
      go_wp2
      go_ret
      refine ⟨?_, rfl⟩
      rw [HQ.out]
      show Ending.returned (.bool (decide ((xs.length : Int) ≤ 80))) = _
      rw [show decide ((xs.length : Int) ≤ 80) = decide (xs.length ≤ 80) from decide_eq_decide.2 (by omega)]
end Go.Proofs.YtdgbililgkhjfaaDoor.Rs
namespace Go.Proofs.YtdgbililgkhjfaaDoor.Rs
open Go.ChangeShapes Go.WideShapes Go.ChangeAt Go.RowKit Go.Proofs.YtdgbililgkhjfaaDoor.Pk
set_option linter.unusedVariables false
theorem kRact : Tryd.prog.cellsOf AT = 15 := by kernel_rfl
section
variable {H : Type} {enc : TypeId × Value → H} {W : World} {base : Nat} {spare : Nat → Bool} {held : Bool} {n : Nat}
set_option maxRecDepth 100000 in
/-- A packet that came in, as cells. -/
theorem open_pkc {cs : List Value} {y : DataW H × List MemPlace} (hl : cs.length = 11) (hf : DataW.trod enc Tryd.prog W base spare held n PT cs = some y) :
    ∃ (k : K) (b b' : Option Addr) (n n' c c' : Nat), cs = (pc k (.slice b n c) (.slice b' n' c')).toList ∧ k.wf ∧ (n ≤ 200 → Ins W (.slice b n c) k.ins) ∧ (n' ≤ 200 → Prs W (.slice b' n' c') k.prs) := by
  match cs, hl with
  | [c0, c1, c2, c3, c4, c5, c6, c7, c8, c9, c10], _ =>
    obtain ⟨xs, m, _, hx, _, hlen, hg⟩ := DataW.trod_struct Tryd.underlying26 hf
    match xs, hlen with
    | [y0, y1, y2, y3, y4, y5, y6, y7, y8, y9, y10], _ =>
      have g0 : DataW.trod enc Tryd.prog W base spare held m 3 ((([c0, c1, c2, c3, c4, c5, c6, c7, c8, c9, c10] : List Value).drop 0).take (Tryd.prog.cellsOf 3)) = some y0 := hg 0 _ rfl
      rw [kInt] at g0
      have f0 : DataW.trod enc Tryd.prog W base spare held m 3 [c0] = some y0 := g0
      have g1 : DataW.trod enc Tryd.prog W base spare held m 5 ((([c0, c1, c2, c3, c4, c5, c6, c7, c8, c9, c10] : List Value).drop 1).take (Tryd.prog.cellsOf 5)) = some y1 := hg 1 _ rfl
      rw [kU8] at g1
      have f1 : DataW.trod enc Tryd.prog W base spare held m 5 [c1] = some y1 := g1
      have g2 : DataW.trod enc Tryd.prog W base spare held m 22 ((([c0, c1, c2, c3, c4, c5, c6, c7, c8, c9, c10] : List Value).drop 2).take (Tryd.prog.cellsOf 22)) = some y2 := hg 2 _ rfl
      rw [kU64] at g2
      have f2 : DataW.trod enc Tryd.prog W base spare held m 22 [c2] = some y2 := g2
      have g3 : DataW.trod enc Tryd.prog W base spare held m 22 ((([c0, c1, c2, c3, c4, c5, c6, c7, c8, c9, c10] : List Value).drop 3).take (Tryd.prog.cellsOf 22)) = some y3 := hg 3 _ rfl
      rw [kU64] at g3
      have f3 : DataW.trod enc Tryd.prog W base spare held m 22 [c3] = some y3 := g3
      have g4 : DataW.trod enc Tryd.prog W base spare held m 22 ((([c0, c1, c2, c3, c4, c5, c6, c7, c8, c9, c10] : List Value).drop 4).take (Tryd.prog.cellsOf 22)) = some y4 := hg 4 _ rfl
      rw [kU64] at g4
      have f4 : DataW.trod enc Tryd.prog W base spare held m 22 [c4] = some y4 := g4
      have g5 : DataW.trod enc Tryd.prog W base spare held m 22 ((([c0, c1, c2, c3, c4, c5, c6, c7, c8, c9, c10] : List Value).drop 5).take (Tryd.prog.cellsOf 22)) = some y5 := hg 5 _ rfl
      rw [kU64] at g5
      have f5 : DataW.trod enc Tryd.prog W base spare held m 22 [c5] = some y5 := g5
      have g6 : DataW.trod enc Tryd.prog W base spare held m 22 ((([c0, c1, c2, c3, c4, c5, c6, c7, c8, c9, c10] : List Value).drop 6).take (Tryd.prog.cellsOf 22)) = some y6 := hg 6 _ rfl
      rw [kU64] at g6
      have f6 : DataW.trod enc Tryd.prog W base spare held m 22 [c6] = some y6 := g6
      have g7 : DataW.trod enc Tryd.prog W base spare held m 23 ((([c0, c1, c2, c3, c4, c5, c6, c7, c8, c9, c10] : List Value).drop 7).take (Tryd.prog.cellsOf 23)) = some y7 := hg 7 _ rfl
      rw [kIns] at g7
      have f7 : DataW.trod enc Tryd.prog W base spare held m 23 [c7] = some y7 := g7
      have g8 : DataW.trod enc Tryd.prog W base spare held m 24 ((([c0, c1, c2, c3, c4, c5, c6, c7, c8, c9, c10] : List Value).drop 8).take (Tryd.prog.cellsOf 24)) = some y8 := hg 8 _ rfl
      rw [kPrs] at g8
      have f8 : DataW.trod enc Tryd.prog W base spare held m 24 [c8] = some y8 := g8
      have g9 : DataW.trod enc Tryd.prog W base spare held m 22 ((([c0, c1, c2, c3, c4, c5, c6, c7, c8, c9, c10] : List Value).drop 9).take (Tryd.prog.cellsOf 22)) = some y9 := hg 9 _ rfl
      rw [kU64] at g9
      have f9 : DataW.trod enc Tryd.prog W base spare held m 22 [c9] = some y9 := g9
      have g10 : DataW.trod enc Tryd.prog W base spare held m 22 ((([c0, c1, c2, c3, c4, c5, c6, c7, c8, c9, c10] : List Value).drop 10).take (Tryd.prog.cellsOf 22)) = some y10 := hg 10 _ rfl
      rw [kU64] at g10
      have f10 : DataW.trod enc Tryd.prog W base spare held m 22 [c10] = some y10 := g10
      obtain ⟨a0, rfl, l0⟩ := cell_int f0
      obtain ⟨a1, rfl, l1⟩ := cell_u8 f1
      obtain ⟨a2, rfl, l2⟩ := cell_u64 f2
      obtain ⟨a3, rfl, l3⟩ := cell_u64 f3
      obtain ⟨a4, rfl, l4⟩ := cell_u64 f4
      obtain ⟨a5, rfl, l5⟩ := cell_u64 f5
      obtain ⟨a6, rfl, l6⟩ := cell_u64 f6
      obtain ⟨b7, n7, e7, rfl⟩ : ∃ b n e, c7 = .slice b n e := by
        rcases DataW.trod_slice Tryd.underlying23 f7 with ⟨e, _⟩ | ⟨a, len, cap, _, _, _, _, e, _⟩
        · cases e; exact ⟨_, _, _, rfl⟩
        · cases e; exact ⟨_, _, _, rfl⟩
      obtain ⟨m7, s7, l7⟩ := open_ins f7
      obtain ⟨b8, n8, e8, rfl⟩ : ∃ b n e, c8 = .slice b n e := by
        rcases DataW.trod_slice Tryd.underlying24 f8 with ⟨e, _⟩ | ⟨a, len, cap, _, _, _, _, e, _⟩
        · cases e; exact ⟨_, _, _, rfl⟩
        · cases e; exact ⟨_, _, _, rfl⟩
      obtain ⟨m8, s8, l8⟩ := open_prs f8
      obtain ⟨a9, rfl, l9⟩ := cell_u64 f9
      obtain ⟨a10, rfl, l10⟩ := cell_u64 f10
      exact ⟨⟨a0, a1, a2, a3, a4, a5, a6, s7, s8, a9, a10⟩, b7, b8, n7, n8, e7, e8, rfl, ⟨l0, l1, l2, l3, l4, l5, l6, l9, l10⟩, l7, l8⟩
set_option maxRecDepth 100000 in
/-- An act that came in, as cells. -/
theorem open_ract {cs : List Value} {y : DataW H × List MemPlace} (hl : cs.length = 15) (hf : DataW.trod enc Tryd.prog W base spare held n AT cs = some y) : ∃ x : Ac, cs = x.cells.toList ∧ x.ok W := by
  obtain ⟨xs, m, _, hx, _, hlen, hg⟩ := DataW.trod_struct Tryd.underlying80 hf
  match xs, hlen with
  | [y0, y1, y2, y3, y4], _ =>
    have g0 : DataW.trod enc Tryd.prog W base spare held m 5 ((cs.drop 0).take (Tryd.prog.cellsOf 5)) = some y0 := hg 0 _ rfl
    have g1 : DataW.trod enc Tryd.prog W base spare held m PT ((cs.drop 1).take (Tryd.prog.cellsOf PT)) = some y1 := hg 1 _ rfl
    have g2 : DataW.trod enc Tryd.prog W base spare held m 22 ((cs.drop 12).take (Tryd.prog.cellsOf 22)) = some y2 := hg 2 _ rfl
    have g3 : DataW.trod enc Tryd.prog W base spare held m 22 ((cs.drop 13).take (Tryd.prog.cellsOf 22)) = some y3 := hg 3 _ rfl
    have g4 : DataW.trod enc Tryd.prog W base spare held m 22 ((cs.drop 14).take (Tryd.prog.cellsOf 22)) = some y4 := hg 4 _ rfl
    rw [kU8] at g0
    rw [kPk] at g1
    rw [kU64] at g2 g3 g4
    obtain ⟨k, b, b', ni, np, ci, cp, hk, hw, hi, hp⟩ := open_pkc (by rw [List.length_take, List.length_drop, hl]; rfl) g1
    match cs, hl, g0, g1, g2, g3, g4, hk with
    | [c0, c1, c2, c3, c4, c5, c6, c7, c8, c9, c10, c11, c12, c13, c14], _, g0, g1, g2, g3, g4, hk =>
      obtain ⟨a0, rfl, l0⟩ := cell_u8 (show DataW.trod enc Tryd.prog W base spare held m 5 [c0] = some y0 from g0)
      obtain ⟨a2, rfl, l2⟩ := cell_u64 (show DataW.trod enc Tryd.prog W base spare held m 22 [c12] = some y2 from g2)
      obtain ⟨a3, rfl, l3⟩ := cell_u64 (show DataW.trod enc Tryd.prog W base spare held m 22 [c13] = some y3 from g3)
      obtain ⟨a4, rfl, l4⟩ := cell_u64 (show DataW.trod enc Tryd.prog W base spare held m 22 [c14] = some y4 from g4)
      have hk' : [c1, c2, c3, c4, c5, c6, c7, c8, c9, c10, c11] = (pc k (.slice b ni ci) (.slice b' np cp)).toList := hk
      simp only [pc, List.cons.injEq] at hk'
      obtain ⟨rfl, rfl, rfl, rfl, rfl, rfl, rfl, rfl, rfl, rfl, rfl, _⟩ := hk'
      exact ⟨⟨a0, k, b, ni, ci, b', np, cp, a2, a3, a4⟩, rfl, ⟨l0, hw, l2, l3, l4, hi, hp⟩⟩
set_option maxRecDepth 100000 in
/-- A slice of acts that came in. -/
theorem open_racts {r0 : Reach} {b0 : Nat} {v : Value} {d : DataW H} {p : List MemPlace} (hv : Value.okWide Tryd.prog W r0 b0 75 v) (h : DataW.Trod enc Tryd.prog W base spare held 75 v d p) : ∃ xs : List Ac, Acts W v xs := by
  obtain ⟨fuel, hf⟩ := h
  obtain ⟨b, k, c, rfl⟩ := okWide_slice Tryd.underlying75 hv
  have hf' : DataW.trod enc Tryd.prog W base spare held fuel 75 [.slice b k c] = some (d, p) := hf
  rcases DataW.trod_slice Tryd.underlying75 hf' with ⟨e, _⟩ | ⟨a, len, cap, elems, rest, m, _, e, hx, _, h1, h2, h3, hg, _⟩
  · cases e
    exact ⟨[], none, 0, rfl, Nat.zero_le _, fun i hi => absurd hi (Nat.not_lt_zero _)⟩
  · cases e
    rw [kRact] at hg
    have key : ∀ i, i < k → ∃ x : Ac, x.ok W ∧ ∀ j u, x.cells.toList[j]? = some u → W.cell? ((a.add (i * 15)).add j) = some u := fun i hi => by
      have hh := hg i hi
      have he : elems[i]? = some elems[i] := List.getElem?_eq_getElem (by omega)
      rw [he] at hh
      obtain ⟨cs, hc, ht⟩ := Option.bind_eq_some_iff.1 hh
      obtain ⟨_, hl, hcc⟩ := World.cells?_some hc
      obtain ⟨x, rfl, hok⟩ := open_ract hl ht
      refine ⟨x, hok, fun j u hu => ?_⟩
      have hj : j < 15 := (List.getElem?_eq_some_iff.1 hu).1
      exact (hcc j hj).trans hu
    have hch : ∃ f : Nat → Ac, ∀ i, i < k → (f i).ok W ∧ ∀ j u, (f i).cells.toList[j]? = some u → W.cell? ((a.add (i * 15)).add j) = some u :=
      ⟨fun i => if hi : i < k then (key i hi).choose else ⟨0, K.zero, none, 0, 0, none, 0, 0, 0, 0, 0⟩, fun i hi => by simp only [hi, dif_pos]; exact (key i hi).choose_spec⟩
    obtain ⟨f, hf⟩ := hch
    refine ⟨(List.range k).map f, some a, c, by simp, by rw [List.length_map, List.length_range]; exact Nat.le_trans h1 h2, fun i hi => ?_⟩
    have hik : i < k := by simpa using hi
    obtain ⟨hok, hcell⟩ := hf i hik
    have h00 := (hf 0 (by omega)).2 0 (.int .u8 (f 0).what) rfl
    have hs := World.cell?_spot h00
    have ha : a = ⟨a.block, a.off, none⟩ := by
      obtain ⟨b, o, s⟩ := a
      cases s with
      | none => rfl
      | some s => simp [Addr.add] at hs
    have hlt : a.block < W.heap.size := by
      have := World.block_lt_of_cell? W _ h00
      rw [ha, add_at, add_at] at this
      exact this
    refine ⟨a.block, a.off, by rw [← ha], hlt, fun j u hu => ?_, ?_⟩
    · simp only [List.getElem_map, List.getElem_range] at hu
      have hc := hcell j u hu
      rw [ha, add_at, add_at] at hc
      exact hc
    · simp only [List.getElem_map, List.getElem_range]
      exact hok
set_option maxRecDepth 100000 in
/-- Two numbers that came in. -/
theorem open_two {r0 : Reach} {b0 : Nat} {v : Value} {d : DataW H} {p : List MemPlace} (hv : Value.okWide Tryd.prog W r0 b0 61 v) (h : DataW.Trod enc Tryd.prog W base spare held 61 v d p) :
    ∃ a b : Int, v = .agg #[.int .i64 a, .int .i64 b] ∧ (-9223372036854775808 ≤ a ∧ a ≤ 9223372036854775807) ∧ (-9223372036854775808 ≤ b ∧ b ≤ 9223372036854775807) := by
  simp only [Value.okWide, Tryd.underlying61] at hv
  obtain ⟨cs, rfl, hsz, _⟩ := hv
  rw [show Tryd.prog.cellsOf 61 = 2 by kernel_rfl] at hsz
  obtain ⟨fuel, hf⟩ := h
  obtain ⟨xs, m, _, _, _, hlen, hg⟩ := DataW.trod_array Tryd.underlying61 hf
  rw [kInt] at hg
  obtain ⟨l⟩ := cs
  match l, hsz, xs, hlen with
  | [c, d], _, [y0, y1], _ =>
    obtain ⟨a, rfl, ha⟩ := cell_int (show DataW.trod enc Tryd.prog W base spare held m 3 [c] = some y0 from hg 0 (by decide))
    obtain ⟨b, rfl, hb⟩ := cell_int (show DataW.trod enc Tryd.prog W base spare held m 3 [d] = some y1 from hg 1 (by decide))
    exact ⟨a, b, rfl, ha, hb⟩
end
end Go.Proofs.YtdgbililgkhjfaaDoor.Rs
namespace Go.Proofs.YtdgbililgkhjfaaDoor.Rs
open Go.RowKit Go.Proofs.YtdgbililgkhjfaaDoor.Crc Go.Proofs.YtdgbililgkhjfaaDoor.Codec Go.Proofs.YtdgbililgkhjfaaDoor.Pk Go.Proofs.YtdgbililgkhjfaaDoor.CrcWalk Go.Proofs.YtdgbililgkhjfaaDoor.Frame Go.Proofs.YtdgbililgkhjfaaDoor.Lk
set_option linter.unusedVariables false
set_option linter.unusedSimpArgs false
/-- Packets without lists lie in memory. -/
def Pks (W : World) (v : Value) (l : List K) : Prop := ∃ b c, v = .slice b l.length c ∧ ∀ i (h : i < l.length), ∃ g, b = some ⟨g, 0, none⟩ ∧ g < W.heap.size ∧ W.rangeAt g (i * 11) (pc l[i] nS nS).toList
theorem pks_at (l : List K) (i : Nat) (h : i < l.length) (j : Nat) (hj : j < 11) : (pks l)[i * 11 + j]? = (pc l[i] nS nS).toList[j]? := by
  induction l generalizing i with
  | nil => exact absurd h (Nat.not_lt_zero _)
  | cons k t ih =>
    have e : pks (k :: t) = (pc k nS nS).toList ++ pks t := by unfold pks; rw [List.flatMap_cons]
    have h11 : (pc k nS nS).toList.length = 11 := rfl
    rw [e]
    match i with
    | 0 => rw [List.getElem?_append_left (by omega), Nat.zero_mul, Nat.zero_add]; rfl
    | i + 1 =>
      rw [List.getElem?_append_right (by omega), h11, show (i + 1) * 11 + j - 11 = i * 11 + j by omega]
      exact ih i (by simpa using h)
theorem Pks.of_own {W : World} {B : Nat} {v : Value} {l : List K} (h : W.ownsRow B PT 11 v l.length (pks l)) : Pks W v l := by
  rcases h.2 with ⟨rfl, h0⟩ | ⟨g, cap, cur, rfl, _, hg, _, _, _, ht⟩
  · exact ⟨none, 0, by rw [h0], fun i hi => absurd hi (by omega)⟩
  · refine ⟨some ⟨g, 0, none⟩, cap, rfl, fun i hi => ⟨g, rfl, (Array.getElem?_eq_some_iff.1 hg).1, fun j u hu => ?_⟩⟩
    have hj : j < 11 := (List.getElem?_eq_some_iff.1 hu).1
    have h1 : (pks l)[i * 11 + j]? = some u := (pks_at l i hi j hj).trans hu
    rw [← ht, List.getElem?_take_of_lt (by omega)] at h1
    rw [cell_of_row W g (i * 11 + j) cur PT (0, 0) hg]
    rw [← Array.getElem?_toList]; exact h1
theorem Pks.below {W W' : World} {v : Value} {l : List K} (h : Pks W v l) (hb : Below W.heap.size W W') : Pks W' v l := by
  obtain ⟨b, c, rfl, hc⟩ := h
  refine ⟨b, c, rfl, fun i hi => ?_⟩
  obtain ⟨g, h1, h2, h3⟩ := hc i hi
  exact ⟨g, h1, Nat.lt_of_lt_of_le h2 hb.size, range_below h3 h2 hb⟩
set_option maxRecDepth 100000 in
set_option maxHeartbeats 1000000 in
/-- What 'told' answers. -/
theorem told_any (v : Value) (l : List K) (ks : List Int) (g c : Nat) (w : World) (hv : Pks w v l) (hk : ∀ i (h : i < ks.length), w.cell? ⟨g, i, none⟩ = some (.int .i64 ks[i])) (hl : l.length ≤ 2) (hg : g < w.heap.size) :
    Calls Tryd.prog 52 #[v, .slice (some ⟨g, 0, none⟩) ks.length c] w fun r w' => r = .returned (.bool (decide (l.map (·.kind) = ks))) ∧ Below w.heap.size w w' := by
  obtain ⟨b, cc, rfl, hc⟩ := hv
  have HC := Lib.hid hc
  have HK := Lib.hid hk
  obtain ⟨X, hX⟩ : ∃ X, X = decide (l.map (·.kind) = ks) := ⟨_, rfl⟩
  rw [← hX]
  have HX := Lib.hid hX
  clear hc hk hX
  by_cases he : l.length = ks.length
  case neg =>
    have t1 : ((l.length : Int) != (ks.length : Int)) = true := by rw [bne_iff_ne]; omega
    have HQ := Lib.hid (show X = false by rw [HX.out]; exact decide_eq_false (fun hh => he (by rw [← hh, List.length_map])))
    go_enter Tryd.func52, Tryd.ntmps52
    go_wp2
    go_ret
    exact ⟨by rw [HQ.out]; rfl, Below.refl _ _⟩
  case pos =>
  have t1 : ((l.length : Int) != (ks.length : Int)) = false := by rw [bne_eq_false_iff_eq]; omega
  go_enter Tryd.func52, Tryd.ntmps52
  go_wp2
  go_loopw [5] (fun i wr => ∃ j : Nat, j ≤ l.length ∧ i = .int .i64 j ∧ (l.take j).map (·.kind) = ks.take j ∧ Below w.heap.size w wr) (fun i _ => l.length - (intOf i).toNat)
  case atStart => exact ⟨0, Nat.zero_le _, rfl, by simp, Below.refl _ _⟩
  case round =>
    obtain ⟨j, hj, rfl, ht, hB⟩ := hrel
    by_cases hlt : j < l.length
    · obtain ⟨gg, rfl, ha, hr⟩ := HC.out j hlt
      have hlk : j < ks.length := by omega
      have ck : wr.cell? ⟨g, j, none⟩ = some (.int .i64 ks[j]) := (hB.cell (p := ⟨g, j, none⟩) hg).trans (HK.out j hlk)
      have cl : wr.cell? ⟨gg, j * 11, none⟩ = some (.int .i64 l[j].kind) := (range_below hr ha hB) 0 _ rfl
      have HS := Lib.hid (show l[j].kind = ks[j] → (l.take (j + 1)).map (·.kind) = ks.take (j + 1) by
        intro e
        rw [List.take_succ_eq_append_getElem hlt, List.take_succ_eq_append_getElem hlk, List.map_append, ht, ← e]
        rfl)
      have HN := Lib.hid (show l[j].kind ≠ ks[j] → X = false by
        intro e
        rw [HX.out]
        refine decide_eq_false fun hh => e ?_
        have h1 : (l.map (·.kind))[j]? = ks[j]? := by rw [hh]
        rw [List.getElem?_map, List.getElem?_eq_getElem hlt, List.getElem?_eq_getElem hlk] at h1
        exact Option.some.inj h1)
      generalize l[j].kind = a at *
      generalize ks[j] = d at *
      clear hr ht
      by_cases hq : a = d
      · have t2 : ((a : Int) != d) = false := by rw [bne_eq_false_iff_eq]; exact hq
        go_wp2
        go_region
        go_wp2
        go_roundw
        case rel => exact ⟨j + 1, by omega, by go_num, HS.out hq, hB.drew⟩
        case measure => simp [intOf]; omega
      · have t2 : ((a : Int) != d) = true := by rw [bne_iff_ne]; exact hq
        go_wp2
        go_region
        go_wp2
        go_ret
        exact ⟨by rw [HN.out hq]; rfl, hB.drew⟩
    · obtain rfl : j = l.length := by omega
      rw [List.take_length, List.take_of_length_le (by omega)] at ht
      have HQ := Lib.hid (show X = true by rw [HX.out]; exact decide_eq_true ht)
      go_wp2
      go_ret
      exact ⟨by rw [HQ.out]; rfl, hB⟩
/-- A machine of the call's own. -/
structure Mv (w : World) (gm gl : Nat) (m : M) (W : World) : Prop where
  m : Mb gm gl m W
  bel : Below w.heap.size w W
  om : w.heap.size ≤ gm
  ol : w.heap.size ≤ gl
theorem Mv.call {w W W' : World} {gm gl : Nat} {m : M} (h : Mv w gm gl m W) (hb : Below W.heap.size W W') : Mv w gm gl m W' :=
  ⟨h.m.call hb, h.bel.trans (hb.mono h.bel.size), h.om, h.ol⟩
theorem Mv.upon {w W W' : World} {gm gl : Nat} {m m' : M} (h : Mv w gm gl m W) (hm : Mb gm gl m' W') (hk : Kq W.heap.size gm gl W W') : Mv w gm gl m' W' :=
  ⟨hm, h.bel.trans (Kq.bel hk h.bel.size h.om h.ol), h.om, h.ol⟩
theorem own_len {W : World} {B sz n : Nat} {e : TypeId} {v : Value} {xs : List Value} (h : W.ownsRow B e sz v n xs) : ∃ b c, v = .slice b n c := by
  rcases h.2 with ⟨h1, h2⟩ | ⟨g, cap, cur, e1, _⟩
  · exact ⟨none, 0, by rw [h1, h2]⟩
  · exact ⟨_, _, e1⟩
theorem load_pk_midg {ops : Array Oper} {rest : List Oper} {op : Oper} {a : Act} {w : World} {Q : Exit → Act → World → Prop} (x : Operand) (b o : Nat) (k : K) (vi vp : Value) (hc : w.rangeAt b o (pc k vi vp).toList) (hgd : Region.wanted op (yielded ops a.tmps) = true) (ho : op.op = .load PT x)
    (hx : a.eval x = .pointer (some ⟨b, o, none⟩)) (h : wpList Tryd.prog ops Q rest (a.put op.dst (.agg (pc k vi vp))) w) : wpList Tryd.prog ops Q (op :: rest) a w := by
  unfold wpList
  rw [if_pos hgd]
  exact .inl (wp_load_mid PT x ho b o hx (pc k vi vp).toList _ hc Tryd.underlying26 rfl (pc_info k vi vp) h)
def tk1 : K := ⟨1, 0, 2, 0, 3, 4, 0, [], [], 0, 0⟩
abbrev m1 : M := M.make 0 2 1
theorem m1_wf : m1.wf := M.make_wf (by decide) (by decide) (by decide) (by decide)
set_option maxRecDepth 100000 in
set_option maxHeartbeats 1000000 in
/-- The law's 'awake'. -/
theorem awake_any (w : World) : Calls Tryd.prog 43 #[] w fun r w' => r = .returned (.bool true) ∧ Below w.heap.size w w' := by
  have w2 : (m1.outs 1).wf := M.outs_wf m1_wf (by decide)
  have HN := Lib.hid (fun W => mnew_yes 0 2 1 W (by decide) (by decide))
  have HS := Lib.hid (fun gm gl W (d : Mv w gm gl m1 W) => mstate_any _ gm gl W d.m)
  rw [show m1.st = 1 from rfl] at HS
  have HO := Lib.hid (fun gm gl W (d : Mv w gm gl m1 W) => out_any _ 1 3 4 gm gl W d.m m1_wf (by decide) (by decide) (by decide))
  rw [show m1.out 1 3 4 = [tk1] from rfl] at HO
  have HP := Lib.hid (fun gm gl W (d : Mv w gm gl (m1.outs 1) W) => out_any _ 1 3 4 gm gl W d.m w2 (by decide) (by decide) (by decide))
  rw [show (m1.outs 1).out 1 3 4 = [] from rfl] at HP
  have HSM := Lib.hid (fun W => same_any tk1 tk1 nS nS nS nS W (ins_nil _) (prs_nil _) (ins_nil _) (prs_nil _))
  rw [decide_eq_true rfl] at HSM
  clear w2
  go_enter Tryd.func43, Tryd.ntmps43
  go_wp2_with fail
  refine (HN.out _).mono ?_
  rintro r w1 ⟨gm, gl, rfl, hb, hbel, h1, h2⟩
  have d1 : Mv w gm gl m1 w1 := ⟨hb, hbel, h1, h2⟩
  clear hb hbel h1 h2
  go_wp2_with fail
  refine (HS.out _ _ _ d1).mono ?_
  rintro r w' ⟨rfl, rfl⟩
  go_wp2_with fail
  refine (HO.out _ _ _ d1).mono ?_
  rintro r w2 ⟨v, rfl, hb, hown, hk⟩
  have d2 := d1.upon hb hk
  have hp := Pks.of_own hown
  obtain ⟨b, c, hv, hc⟩ := id hp
  obtain ⟨g, rfl, hg, hr⟩ := hc 0 (by decide)
  obtain rfl : v = .slice (some ⟨g, 0, none⟩) 1 c := hv
  clear hb hown hk d1 hc
  have hn3 : Blk (w2.alloc (.cells #[.int .i64 1] 3)) w2.heap.size #[.int .i64 1] 3 := heap_alloc_new w2 _
  have HTL := Lib.hid (told_any _ [tk1] [1] w2.heap.size 1 _ (hp.below (bel_alloc w2 (.cells #[.int .i64 1] 3))) (fun i hi => by
    have : i = 0 := by simp at hi; exact hi
    subst this
    exact hn3.cell _ rfl) (by decide) hn3.lt)
  rw [show decide ([tk1].map (·.kind) = [1]) = true from rfl] at HTL
  have HD3 := Lib.hid (d2.call (bel_alloc w2 (.cells #[.int .i64 1] 3)))
  have HR3 := Lib.hid (range_below hr hg (bel_alloc w2 (.cells #[.int .i64 1] 3)))
  have hg3 : g < (w2.alloc (.cells #[.int .i64 1] 3)).heap.size := by simp; omega
  clear d2 hp hr hn3
  go_wp2_with fail
  refine HTL.out.mono ?_
  rintro r w3 ⟨rfl, hb⟩
  have d3 := HD3.out.call hb
  have hr3 := range_below HR3.out hg3 hb
  rw [Nat.zero_mul] at hr3
  clear hb hg3
  go_wp2_with (refine load_pk_midg (.tmp 18) g 0 tk1 nS nS hr3 rfl rfl rfl ?_)
  refine (HSM.out _).mono ?_
  rintro r w4 ⟨rfl, hb⟩
  have d4 := d3.call hb
  clear hb d3 hr3
  go_wp2_with fail
  refine (HP.out _ _ _ d4).mono ?_
  rintro r w5 ⟨v5, rfl, hb, hown, hk⟩
  have HD5 := Lib.hid (d4.upon hb hk).bel
  obtain ⟨b5, c5, rfl⟩ := own_len hown
  clear hb hown hk d4
  go_wp2
  go_ret
  exact ⟨rfl, HD5.out⟩
end Go.Proofs.YtdgbililgkhjfaaDoor.Rs
namespace Go.Proofs.YtdgbililgkhjfaaDoor.Rs
open Go.RowKit Go.Proofs.YtdgbililgkhjfaaDoor.Crc Go.Proofs.YtdgbililgkhjfaaDoor.Codec Go.Proofs.YtdgbililgkhjfaaDoor.Pk Go.Proofs.YtdgbililgkhjfaaDoor.CrcWalk Go.Proofs.YtdgbililgkhjfaaDoor.Frame
open Go.Proofs.YtdgbililgkhjfaaDoor.Lk (L lc range_below load_pk_mid blk_range far_blk epoch_any)
set_option linter.unusedVariables false
set_option linter.unusedSimpArgs false
/-- The machine behind an act. -/
def M.act (m : M) (x : Ac) : M := if x.what % 3 = 0 then (m.on x.k).1 else if x.what % 3 = 1 then m.look x.cn else m
/-- What is known of a machine of epoch o. -/
structure Kn (o : Nat) (m : M) : Prop where
  own : m.l.own = o
  st : m.st ≠ 1 ↔ m.l.met = true
  ep : m.l.met = true → m.l.epoch ≠ 0
theorem on_two (m : M) (k : K) : (m.on k).2 = (m.l.acc k).2 ∧ ((m.l.acc k).2 ≠ 0 → (m.on k).1 = m) ∧ ((m.l.acc k).2 = 0 → (m.on k).1 = m.took k (m.l.told k) ∧ k.epoch ≠ 0 ∧ (m.l.acc k).1 = m.l.told k) := by
  unfold M.on
  refine ⟨?_, ?_, ?_⟩
  · split
    · next h => exact h.symm
    · rfl
  · intro h; rw [if_neg h]
  · intro h
    rw [if_pos h]
    unfold L.acc at h ⊢
    split at h
    · next h1 => exact absurd h (show ¬ (4 : Int) = 0 by decide)
    · next h1 =>
      split at h
      · next h2 => exact absurd h (show ¬ (12 : Int) = 0 by decide)
      · next h2 =>
        rw [if_neg h1, if_neg h2]
        have h3 : k.may ∧ k.only = k := Classical.not_not.1 fun h3 => h1 (.inl h3)
        exact ⟨rfl, h3.1.2.2.2.1, rfl⟩
theorem Kn.on {o : Nat} {m : M} (h : Kn o m) (k : K) : Kn o (m.on k).1 := by
  by_cases h0 : (m.l.acc k).2 = 0
  · obtain ⟨h1, h2, _⟩ := (on_two m k).2.2 h0
    rw [h1]
    have hs := h.st
    refine ⟨h.own, ?_, ?_⟩
    · show (if m.met1 (m.l.told k) = true then 2 else m.st1 (m.l.told k)) ≠ 1 ↔ (m.l.told k).met = true
      unfold M.met1 M.st1
      have e1 : (m.l.told k).epoch = max m.l.epoch k.epoch := rfl
      have e2 : (m.l.told k).met = ((!decide (m.l.epoch < k.epoch) && m.l.met) || decide (k.dest = m.l.own)) := rfl
      by_cases hh : (m.l.told k).epoch = m.l.epoch
      · rw [if_pos hh]
        rw [e1] at hh
        rw [decide_eq_false (by omega : ¬ m.l.epoch < k.epoch), Bool.not_false, Bool.true_and] at e2
        generalize (m.l.told k).met = b at *
        cases b with
        | true =>
          by_cases h9 : m.st = 1
          · simp [h9]
          · simp [h9]
        | false =>
          have hmf : m.l.met = false := by
            cases hq : m.l.met with
            | true => rw [hq] at e2; simp at e2
            | false => rfl
          have h9 : m.st = 1 := by
            by_cases h9 : m.st = 1
            · exact h9
            · have h8 := hs.1 h9
              rw [hmf] at h8
              cases h8
          simp [h9]
      · rw [if_neg hh]
        generalize (m.l.told k).met = b at *
        cases b <;> simp
    · intro _
      show max m.l.epoch k.epoch ≠ 0
      omega
  · rw [(on_two m k).2.1 h0]; exact h
theorem Kn.look {o : Nat} {m : M} (h : Kn o m) (c : Nat) : Kn o (m.look c) := by
  have hs := h.st
  refine ⟨h.own, ?_, h.ep⟩
  show (if m.st = 2 ∧ m.goal ≤ c then 3 else m.st) ≠ 1 ↔ m.l.met = true
  rw [← hs]
  split
  · next h1 => constructor <;> intro _ <;> omega
  · exact Iff.rfl
theorem Kn.act {o : Nat} {m : M} (h : Kn o m) (x : Ac) : Kn o (m.act x) := by
  unfold M.act
  split
  · exact h.on _
  · split
    · exact h.look _
    · exact h
/-- What the law's own word 'met' becomes. -/
theorem met_step {o : Nat} {m : M} (h : Kn o m) (k : K) (h0 : (m.l.acc k).2 = 0) :
    (m.on k).1.l.met = ((if (m.on k).1.l.epoch ≠ m.l.epoch then false else m.l.met) || decide (k.dest = o)) := by
  obtain ⟨h1, h2, _⟩ := (on_two m k).2.2 h0
  rw [h1, ← h.own]
  show ((!decide (m.l.epoch < k.epoch) && m.l.met) || decide (k.dest = m.l.own)) = ((if max m.l.epoch k.epoch ≠ m.l.epoch then false else m.l.met) || decide (k.dest = m.l.own))
  congr 1
  by_cases hh : m.l.epoch < k.epoch
  · rw [decide_eq_true hh, if_pos (by omega)]; rfl
  · rw [decide_eq_false hh, if_neg (by omega)]; rfl
theorem M.act_wf {m : M} {x : Ac} {w : World} (h : m.wf) (hx : x.ok w) : (m.act x).wf := by
  unfold M.act
  split
  · exact M.on_wf h hx.k
  · split
    · exact M.look_wf h
    · exact h
/-- Under way: the machine, and an act's own copy. -/
structure Ra (w : World) (gm gl ga : Nat) (m : M) (x : Ac) (W : World) : Prop where
  v : Mv w gm gl m W
  x : Blk W ga x.cells AT
  lm : gm < ga
  ll : gl < ga
theorem Ra.call {w W W' : World} {gm gl ga : Nat} {m : M} {x : Ac} (h : Ra w gm gl ga m x W) (hb : Below W.heap.size W W') : Ra w gm gl ga m x W' :=
  ⟨h.v.call hb, (hb.block _ h.x.lt).trans h.x, h.lm, h.ll⟩
theorem Ra.upon {w W W' : World} {gm gl ga : Nat} {m m' : M} {x : Ac} (h : Ra w gm gl ga m x W) (hm : Mb gm gl m' W') (hk : Kq W.heap.size gm gl W W') : Ra w gm gl ga m' x W' :=
  ⟨h.v.upon hm hk, Kq.blk hk h.x h.x.lt (by have := h.lm; omega) (by have := h.ll; omega), h.lm, h.ll⟩
def ac0 : Ac := ⟨0, K.zero, none, 0, 0, none, 0, 0, 0, 0, 0⟩
theorem ract_info (c : Ac) : (Tryd.prog.info? AT).map (·.size) = some c.cells.size := by kernel_rfl
theorem ract_all (c : Ac) : c.cells.all (·.oneCell') = true := by
  simp [Ac.cells, Value.oneCell']
theorem store_ract {ops : Array Oper} {rest : List Oper} {op : Oper} {a : Act} {w : World} {Q : Exit → Act → World → Prop} (x y : Operand) (g : Nat) (c0 c : Ac) (hb : Blk w g c0.cells AT) (hgd : op.guard = none) (ho : op.op = .store AT x y)
    (hd : op.dst = none) (hx : a.eval x = .pointer (some ⟨g, 0, none⟩)) (hy : a.eval y = .agg c.cells) (h : wpList Tryd.prog ops Q rest a (w.setRow g c.cells)) : wpList Tryd.prog ops Q (op :: rest) a w :=
  wpList_store_rowTo hgd AT x y ho hd g c.cells hx hy AT c0.cells hb (ract_info c) rfl (ract_all c) h
theorem load_ract {ops : Array Oper} {rest : List Oper} {op : Oper} {a : Act} {w : World} {Q : Exit → Act → World → Prop} (x : Operand) (b o : Nat) (c : Ac) (hc : w.rangeAt b o c.cells.toList) (hgd : op.guard = none) (ho : op.op = .load AT x)
    (hx : a.eval x = .pointer (some ⟨b, o, none⟩)) (h : wpList Tryd.prog ops Q rest (a.put op.dst (.agg c.cells)) w) : wpList Tryd.prog ops Q (op :: rest) a w :=
  wpList_load_mid hgd AT x ho b o hx c.cells.toList _ hc Tryd.underlying80 rfl (ract_info c) h
set_option maxRecDepth 100000 in
set_option maxHeartbeats 16000000 in
/-- P27.5: the law ResumeKnows. -/
theorem knows_law (e : Nat) (v : Value) (xs : List Ac) (w : World) (he : e < 18446744073709551616) (hx : Acts w v xs) (hT : Tab w) :
    Calls Tryd.prog 12 #[.int .u64 e, v] w fun r w' => r = .returned (.bool true) ∧ Below w.heap.size w w' := by
  have HA := Lib.hid (fun W => awake_any W)
  have HFW := Lib.hid (fun W (h : Below w.heap.size w W) => fewr_any v xs W (hx.below h))
  have HTT := Lib.hid hT
  have HX := Lib.hid hx
  have HN1 := Lib.hid (fun W => mnew_yes 0 1 2 W (by decide) (by decide))
  have HNE := Lib.hid (fun W (h : 1 ≤ e) => mnew_yes 0 e 2 W ⟨by decide, h, by decide, by decide⟩ he)
  obtain ⟨o, ho⟩ : ∃ o, o = max 1 e := ⟨_, rfl⟩
  obtain ⟨m0, hm0⟩ : ∃ m0, m0 = M.make 0 o 2 := ⟨_, rfl⟩
  have hw0 : m0.wf := by rw [hm0, ho]; exact M.make_wf (by decide) (by omega) (by decide) (by decide)
  have hk0 : Kn o m0 := by rw [hm0]; exact ⟨rfl, ⟨fun h => absurd rfl h, fun h => by cases h⟩, fun h => by cases h⟩
  have HM0 := Lib.hid hm0
  have HW0 := Lib.hid hw0
  have HK0 := Lib.hid hk0
  have HO := Lib.hid ho
  have HM1 := Lib.hid (show m0.l.met = false by rw [hm0]; rfl)
  clear hT hx hm0 hw0 hk0 ho
  go_enter Tryd.func12, Tryd.ntmps12
  go_upto_region 1 with fail
  go_cut [5] (fun z wx => ∃ gm gl, z = .pointer (some ⟨gm, 0, none⟩) ∧ Mv w gm gl m0 wx)
  case first =>
    by_cases h0 : 1 < e
    · go_wp2_with fail
      refine (HNE.out _ (Nat.le_of_lt h0)).mono ?_
      rintro r w1 ⟨gm, gl, rfl, hb, hbel, h1, h2⟩
      have HQ := Lib.hid (show Mv w gm gl m0 w1 from ⟨by rw [HM0.out, HO.out, Nat.max_eq_right (Nat.le_of_lt h0)]; exact hb, hbel, h1, h2⟩)
      clear hb hbel h1 h2
      go_wp2
      go_meet
      exact ⟨gm, gl, rfl, HQ.out⟩
    · go_wp2_with fail
      refine (HN1.out _).mono ?_
      rintro r w1 ⟨gm, gl, rfl, hb, hbel, h1, h2⟩
      have HQ := Lib.hid (show Mv w gm gl m0 w1 from ⟨by rw [HM0.out, HO.out, Nat.max_eq_left (Nat.le_of_not_lt h0)]; exact hb, hbel, h1, h2⟩)
      clear hb hbel h1 h2
      go_wp2
      go_meet
      exact ⟨gm, gl, rfl, HQ.out⟩
  case rest =>
  obtain ⟨gm, gl, rfl, hL0⟩ := hcut
  clear HN1 HNE HM0
  go_wp2_with fail
  refine (HFW.out _ hL0.bel).mono ?_
  rintro r w' ⟨rfl, rfl⟩
  by_cases hf : xs.length ≤ 80 ∧ ∀ x ∈ xs, x.few
  case neg =>
    rw [decide_eq_false hf]
    have hB := hL0.bel
    clear hf hL0
    go_wp2_with fail
    refine (HA.out _).mono ?_
    rintro r w3 ⟨rfl, hb⟩
    have hB3 := hB.trans (hb.mono hB.size)
    clear hb hB
    go_wp2
    go_ret
    exact ⟨rfl, hB3⟩
  case pos =>
  rw [decide_eq_true hf]
  have hl80 := hf.1
  have HFE := Lib.hid hf.2
  obtain ⟨b, c, rfl, hlen, hcell⟩ := id HX.out
  have HCL := Lib.hid hcell
  unfold maxLen at hlen
  clear hf hcell HFW HX
  go_wp2_with fail
  go_loopw [6, 7] (fun z i wr => ∃ (j : Nat) (m : M), j ≤ xs.length ∧ z = .bool m.l.met ∧ i = .int .i64 j ∧ m.wf ∧ Kn o m ∧ Mv w gm gl m wr) (fun _ i _ => xs.length - (intOf i).toNat)
  case atStart => exact ⟨0, m0, Nat.zero_le _, by rw [HM1.out], rfl, HW0.out, HK0.out, hL0⟩
  case round =>
    obtain ⟨j, m, hj, rfl, rfl, hm, hkn, hL⟩ := hrel
    by_cases hlt : j < xs.length
    · obtain ⟨gb, ob, rfl, ha, hr, hok⟩ := HCL.out j hlt
      have hfe := HFE.out xs[j] (List.getElem_mem _)
      generalize xs[j] = x at *
      have HL := Lib.hid hL
      have HMW := Lib.hid hm
      have HKN := Lib.hid hkn
      have HOK := Lib.hid hok
      have HFX := Lib.hid hfe
      have HR := Lib.hid (range_below hr ha hL.bel)
      have h8 : Blk (wr.alloc (.cells ac0.cells AT)) wr.heap.size ac0.cells AT := heap_alloc_new wr _
      have H8 := Lib.hid h8
      clear hL hm hkn hok hfe hr h8
      go_upto_region 8 with fail
      go_cut [8] (fun z wx => z = .pointer (some ⟨wr.heap.size, 0, none⟩) ∧ Ra w gm gl wr.heap.size m x wx)
      case first =>
        go_wp2_with (first | (refine load_ract (.tmp 33) gb (ob + j * 15) x HR.out rfl rfl rfl ?_) | (refine store_ract (.tmp 8) (.tmp 34) wr.heap.size ac0 x H8.out rfl rfl rfl rfl rfl ?_))
        go_meet
        refine ⟨rfl, HL.out.call (below_setRow (bel_alloc wr (.cells ac0.cells AT)) (Nat.le_refl _) _), setRow_heap _ _ _ _ _ _ H8.out, HL.out.m.a.lt, HL.out.m.b.lt⟩
      case rest =>
      obtain ⟨rfl, hR1⟩ := hcut
      clear HL HR H8
      generalize wr.heap.size = ga at *
      have HLK := Lib.hid (fun m V (d : Ra w gm gl ga m x V) => mlink_any m gm gl V d.v.m)
      have HEP := Lib.hid (fun m V (hw : M.wf m) (d : Ra w gm gl ga m x V) => epoch_any m.l gl V d.v.m.b hw.l)
      go_wp2_with fail
      refine (HLK.out m _ hR1).mono ?_
      rintro r w' ⟨rfl, rfl⟩
      go_wp2_with fail
      refine (HEP.out m _ HMW.out hR1).mono ?_
      rintro r w' ⟨rfl, rfl⟩
      obtain ⟨m1, hm1⟩ : ∃ m1, m1 = if x.what % 3 = 0 then (m.on x.k).1 else m := ⟨_, rfl⟩
      obtain ⟨S, hS⟩ : ∃ S, S = (decide (x.what % 3 = 0) && decide ((m.l.acc x.k).2 = 0)) := ⟨_, rfl⟩
      have HM1 := Lib.hid hm1
      have HS := Lib.hid hS
      have HR1 := Lib.hid hR1
      have cw : wc.cell? ⟨ga, 0, none⟩ = some (.int .u8 x.what) := hR1.x.cell _ rfl
      have HP1 := Lib.hid (x.cells_pk (blk_range hR1.x))
      clear hm1 hS hR1
      go_upto_region 10 with fail
      go_cut [48] (fun z wx => z = .bool S ∧ Ra w gm gl ga m1 x wx)
      case first =>
        obtain ⟨E, hE⟩ : ∃ E, E = (m.on x.k).2 := ⟨_, rfl⟩
        have HON := Lib.hid (fun V (d : Ra w gm gl ga m x V) => mon_any m x.k x.vi x.vp gm gl V d.v.m HMW.out HOK.out.k
          (fun U q => (HOK.out.ins HFX.out.1).below (d.v.bel.trans (Kq.bel q d.v.bel.size d.v.om d.v.ol)))
          (fun U q => (HOK.out.prs HFX.out.2).below (d.v.bel.trans (Kq.bel q d.v.bel.size d.v.om d.v.ol)))
          (fun U q => tab_below HTT.out (d.v.bel.trans (Kq.bel q d.v.bel.size d.v.om d.v.ol))))
        rw [← hE] at HON
        have HE := Lib.hid (hE.trans (on_two m x.k).1)
        clear hE
        by_cases h0 : x.what % 3 = 0
        · have hz : (x.what : Int) % 3 = 0 := by omega
          have HQ := Lib.hid (show (m.on x.k).1 = m1 by rw [HM1.out, if_pos h0])
          have HP := HP1.out
          by_cases h1 : E = 0
          · have hz2 : (E == 0) = true := by rw [beq_iff_eq]; exact h1
            have HSQ := Lib.hid (show S = true by rw [HS.out, decide_eq_true h0, decide_eq_true (HE.out ▸ h1)]; rfl)
            clear h0 h1
            go_wp2_with (refine load_pk_midg (.tmp 44) ga 1 x.k x.vi x.vp HP rfl rfl rfl ?_)
            refine (HON.out _ HR1.out).mono ?_
            rintro r w2 ⟨rfl, hb, hk⟩
            have HR2 := Lib.hid (HR1.out.upon hb hk)
            clear hb hk HP
            go_wp2
            go_meet
            exact ⟨by rw [HSQ.out], HQ.out ▸ HR2.out⟩
          · have hz2 : (E == 0) = false := by rw [beq_eq_false_iff_ne]; exact h1
            have HSQ := Lib.hid (show S = false by rw [HS.out, decide_eq_true h0, decide_eq_false (fun h => h1 (HE.out.trans h))]; rfl)
            clear h0 h1
            go_wp2_with (refine load_pk_midg (.tmp 44) ga 1 x.k x.vi x.vp HP rfl rfl rfl ?_)
            refine (HON.out _ HR1.out).mono ?_
            rintro r w2 ⟨rfl, hb, hk⟩
            have HR2 := Lib.hid (HR1.out.upon hb hk)
            clear hb hk HP
            go_wp2
            go_meet
            exact ⟨by rw [HSQ.out], HQ.out ▸ HR2.out⟩
        · obtain ⟨N, hN⟩ : ∃ N : Bool, N = ((x.what : Int) % 3 == 0) := ⟨_, rfl⟩
          have hz : ((x.what : Int) % 3 == 0) = false := by rw [beq_eq_false_iff_ne]; omega
          have HQ := Lib.hid (show m = m1 by rw [HM1.out, if_neg h0])
          have HSQ := Lib.hid (show S = false by rw [HS.out, decide_eq_false h0]; rfl)
          clear h0 hN
          go_wp2
          go_meet
          exact ⟨by rw [HSQ.out], HQ.out ▸ HR1.out⟩
      case rest =>
      obtain ⟨rfl, hR2⟩ := hcut
      have HR2 := Lib.hid hR2
      have hm1w : m1.wf := by
        rw [HM1.out]; split
        · exact M.on_wf HMW.out HOK.out.k
        · exact HMW.out
      have HM1W := Lib.hid hm1w
      have HP2 := Lib.hid ((x.cells_pk (blk_range hR2.x)) 3 (.int .u64 x.k.dest) rfl)
      clear hR2 hm1w cw HR1 HP1
      go_upto_if 48 with fail
      go_cut [6] (fun z wx => z = .bool m1.l.met ∧ Ra w gm gl ga m1 x wx)
      case first =>
        cases S with
        | false =>
          have HQ := Lib.hid (show m1 = m by
            rw [HM1.out]
            split
            · next h => exact (on_two m x.k).2.1 (fun h9 => by have h8 := HS.out; rw [decide_eq_true h, decide_eq_true h9] at h8; cases h8)
            · rfl)
          go_wp2
          go_meet
          exact ⟨by rw [HQ.out], HR2.out⟩
        | true =>
          obtain ⟨D, hD⟩ : ∃ D, D = decide (x.k.dest = o) := ⟨_, rfl⟩
          have hs2 := HS.out.symm
          rw [Bool.and_eq_true, decide_eq_true_iff, decide_eq_true_iff] at hs2
          have hms := met_step HKN.out x.k hs2.2
          rw [show (m.on x.k).1 = m1 by rw [HM1.out, if_pos hs2.1], ← hD] at hms
          have HD := Lib.hid hD
          have HMS := Lib.hid hms
          clear hD hs2 hms
          go_wp2_with fail
          refine (HLK.out m1 _ HR2.out).mono ?_
          rintro r w' ⟨rfl, rfl⟩
          go_wp2_with fail
          refine (HEP.out m1 _ HM1W.out HR2.out).mono ?_
          rintro r w' ⟨rfl, rfl⟩
          have cd : wc.cell? ⟨ga, 1 + 3, none⟩ = some (.int .u64 x.k.dest) := HP2.out
          by_cases hep : m1.l.epoch = m.l.epoch
          · have te : ((m1.l.epoch : Int) != (m.l.epoch : Int)) = false := by rw [bne_eq_false_iff_eq]; omega
            cases hq : m.l.met with
            | true =>
              have HQ := Lib.hid (show m1.l.met = true by rw [HMS.out, if_neg (fun h => h hep), hq]; rfl)
              clear hep hq
              go_wp2
              go_meet
              exact ⟨by rw [HQ.out], HR2.out⟩
            | false =>
              have HQ := Lib.hid (show m1.l.met = D by rw [HMS.out, if_neg (fun h => h hep), hq]; rfl)
              clear hep hq
              by_cases h1 : 1 < e
              · have eD : ((x.k.dest : Int) == (e : Int)) = D := by rw [HD.out, HO.out, Nat.max_eq_right (Nat.le_of_lt h1), Bool.eq_iff_iff, beq_iff_eq, decide_eq_true_iff]; omega
                go_wp2
                go_meet
                exact ⟨by rw [HQ.out, ← eD], HR2.out⟩
              · have eD : ((x.k.dest : Int) == 1) = D := by rw [HD.out, HO.out, Nat.max_eq_left (Nat.le_of_not_lt h1), Bool.eq_iff_iff, beq_iff_eq, decide_eq_true_iff]; omega
                go_wp2
                go_meet
                exact ⟨by rw [HQ.out, ← eD], HR2.out⟩
          · have te : ((m1.l.epoch : Int) != (m.l.epoch : Int)) = true := by rw [bne_iff_ne]; omega
            have HQ := Lib.hid (show m1.l.met = D by rw [HMS.out, if_pos hep]; rfl)
            clear hep
            by_cases h1 : 1 < e
            · have eD : ((x.k.dest : Int) == (e : Int)) = D := by rw [HD.out, HO.out, Nat.max_eq_right (Nat.le_of_lt h1), Bool.eq_iff_iff, beq_iff_eq, decide_eq_true_iff]; omega
              go_wp2
              go_meet
              exact ⟨by rw [HQ.out, ← eD], HR2.out⟩
            · have eD : ((x.k.dest : Int) == 1) = D := by rw [HD.out, HO.out, Nat.max_eq_left (Nat.le_of_not_lt h1), Bool.eq_iff_iff, beq_iff_eq, decide_eq_true_iff]; omega
              go_wp2
              go_meet
              exact ⟨by rw [HQ.out, ← eD], HR2.out⟩
      case rest =>
      obtain ⟨rfl, hR3⟩ := hcut
      clear HR2 HP2
      obtain ⟨m2, hm2⟩ : ∃ m2, m2 = m.act x := ⟨_, rfl⟩
      have HM2 := Lib.hid (show m2 = if x.what % 3 = 1 then m1.look x.cn else m1 by
        rw [hm2, HM1.out]
        unfold M.act
        by_cases h0 : x.what % 3 = 0
        · rw [if_pos h0, if_pos h0, if_neg (by omega)]
        · rw [if_neg h0, if_neg h0])
      have HK2 := Lib.hid (show Kn o m2 by rw [hm2]; exact HKN.out.act x)
      have HW2 := Lib.hid (show m2.wf by rw [hm2]; exact M.act_wf HMW.out HOK.out)
      obtain ⟨b, hb⟩ : ∃ b, b = m2.l.met := ⟨_, rfl⟩
      have HB := Lib.hid hb
      have HMT := Lib.hid (show m1.l.met = b by rw [hb, HM2.out]; split <;> rfl)
      have HR3 := Lib.hid hR3
      have cw : wc.cell? ⟨ga, 0, none⟩ = some (.int .u8 x.what) := hR3.x.cell _ rfl
      have cc : wc.cell? ⟨ga, 13, none⟩ = some (.int .u64 x.cn) := hR3.x.cell _ rfl
      have HLO := Lib.hid (mlook_any m1 x.cn gm gl wc hR3.v.m)
      clear hR3 hm2 hb
      rw [HMT.out]
      go_upto_region 14 with fail
      go_cut [66] (fun z wx => z = .bool (decide (x.what % 3 = 1)) ∧ wc = wx)
      case first =>
        go_wp2
        go_meet
        refine ⟨?_, rfl⟩
        congr 1
        rw [Bool.eq_iff_iff, beq_iff_eq, decide_eq_true_iff]
        omega
      case rest =>
      obtain ⟨rfl, rfl⟩ := hcut
      clear cw
      go_upto_if 66 with fail
      go_cut [] (fun wx => Ra w gm gl ga m2 x wx)
      case first =>
        by_cases h1 : x.what % 3 = 1
        · rw [decide_eq_true h1]
          have HQ := Lib.hid (show m1.look x.cn = m2 by rw [HM2.out, if_pos h1])
          clear h1
          go_wp2_with fail
          refine HLO.out.mono ?_
          rintro r w2 ⟨rfl, hb, hk⟩
          have HR4 := Lib.hid (HR3.out.upon hb (kq_kp' hk))
          clear hb hk
          go_wp2
          go_meet
          exact HQ.out ▸ HR4.out
        · rw [decide_eq_false h1]
          have HQ := Lib.hid (show m1 = m2 by rw [HM2.out, if_neg h1])
          clear h1
          go_wp2
          go_meet
          exact HQ.out ▸ HR3.out
      case rest =>
      have hR4 := hcut
      clear hcut HLO HR3 cc
      have HST := Lib.hid (mstate_any m2 gm gl wc hR4.v.m)
      have HLK2 := Lib.hid (HLK.out m2 _ hR4)
      have HEP2 := Lib.hid (HEP.out m2 _ HW2.out hR4)
      have HR4 := Lib.hid hR4
      clear hR4 HLK HEP
      go_upto_region 16 with fail
      go_cut [91] (fun z wx => z = .bool false ∧ wc = wx)
      case first =>
        cases b with
        | true =>
          have hq := HB.out.symm
          have h1 := HK2.out.st.2 hq
          have h2 := HK2.out.ep hq
          have ts : ((m2.st : Int) != 1) = true := by rw [bne_iff_ne]; omega
          have tq : ((m2.st : Int) == 1) = false := by rw [beq_eq_false_iff_ne]; omega
          have te : ((m2.l.epoch : Int) == 0) = false := by rw [beq_eq_false_iff_ne]; omega
          clear h1 h2 hq
          go_wp2_with (first | (go_at_call 47; refine HST.out.mono ?_; rintro r w' ⟨rfl, rfl⟩) | (go_at_call 44; refine HLK2.out.mono ?_; rintro r w' ⟨rfl, rfl⟩) | (go_at_call 30; refine HEP2.out.mono ?_; rintro r w' ⟨rfl, rfl⟩))
          go_meet
          exact ⟨rfl, rfl⟩
        | false =>
          have h1 : m2.st = 1 := by
            by_cases h1 : m2.st = 1
            · exact h1
            · have h2 := HK2.out.st.1 h1
              rw [← HB.out] at h2
              cases h2
          have ts : ((m2.st : Int) != 1) = false := by rw [bne_eq_false_iff_eq]; omega
          have tq : ((m2.st : Int) == 1) = true := by rw [beq_iff_eq]; omega
          clear h1
          go_wp2_with (first | (go_at_call 47; refine HST.out.mono ?_; rintro r w' ⟨rfl, rfl⟩) | (go_at_call 44; refine HLK2.out.mono ?_; rintro r w' ⟨rfl, rfl⟩) | (go_at_call 30; refine HEP2.out.mono ?_; rintro r w' ⟨rfl, rfl⟩))
          go_meet
          exact ⟨rfl, rfl⟩
      case rest =>
      obtain ⟨rfl, rfl⟩ := hcut
      clear HST HLK2 HEP2
      go_wp2
      go_roundw
      case rel => exact ⟨j + 1, m2, by omega, by rw [HB.out], by go_num, HW2.out, HK2.out, HR4.out.v⟩
      case measure => simp [intOf]; omega
    · obtain rfl : j = xs.length := by omega
      have hB := hL.bel
      clear hL hkn hm
      go_wp2_with fail
      refine (HA.out _).mono ?_
      rintro r w3 ⟨rfl, hb⟩
      have hB3 := hB.trans (hb.mono hB.size)
      clear hb hB
      go_wp2
      go_ret
      exact ⟨rfl, hB3⟩
end Go.Proofs.YtdgbililgkhjfaaDoor.Rs
namespace Go.Proofs.YtdgbililgkhjfaaDoor.Rs
open Go.RowKit Go.Proofs.YtdgbililgkhjfaaDoor.Crc Go.Proofs.YtdgbililgkhjfaaDoor.Codec Go.Proofs.YtdgbililgkhjfaaDoor.Pk Go.Proofs.YtdgbililgkhjfaaDoor.CrcWalk Go.Proofs.YtdgbililgkhjfaaDoor.Frame
open Go.Proofs.YtdgbililgkhjfaaDoor.Lk (L lc rlc RL RPk nS mayL far_blk rmayl_any rnew_any racc_any rdue_any rsent_any rhdr_any)
set_option linter.unusedVariables false
set_option linter.unusedSimpArgs false
abbrev DT := 89
/-- The document's machine and its link lie in their blocks. -/
structure Db (gm gl : Nat) (m : M) (W : World) : Prop where
  a : Blk W gm (mc m gl) DT
  b : Blk W gl (rlc m.l) RL
  ne : gm ≠ gl
theorem Db.call {gm gl : Nat} {m : M} {W W' : World} (h : Db gm gl m W) (hb : Below W.heap.size W W') : Db gm gl m W' :=
  ⟨(hb.block _ h.a.lt).trans h.a, (hb.block _ h.b.lt).trans h.b, h.ne⟩
theorem Db.set {gm gl : Nat} {m m' : M} {W : World} (h : Db gm gl m W) (off : Nat) (v : Value) (hs : (mc m gl).setIfInBounds off v = mc m' gl) (hl : m'.l = m.l) : Db gm gl m' (W.setCell ⟨gm, off, none⟩ v) :=
  ⟨hs ▸ h.a.set v, by rw [hl]; exact far_blk h.b h.ne _ _, h.ne⟩
set_option maxRecDepth 100000 in
theorem dnew_yes (p e v : Nat) (w : World) (h : mayL p e v) (he : e < 18446744073709551616) :
    Calls Tryd.prog 48 #[.int .u8 p, .int .u64 e, .int .i64 v] w fun r w' => ∃ gm gl, r = .returned (.pointer (some ⟨gm, 0, none⟩)) ∧ Db gm gl (M.make p e v) w' ∧ Below w.heap.size w w' ∧ w.heap.size ≤ gm ∧ w.heap.size ≤ gl := by
  have HY := Lib.hid (rmayl_any p e v w)
  rw [decide_eq_true h] at HY
  have HN := Lib.hid (rnew_any p e v w (by have := h.2.2.2; omega))
  clear h he
  go_enter Tryd.func48, Tryd.ntmps48
  go_wp2_with fail
  refine HY.out.mono ?_
  rintro r w' ⟨rfl, rfl⟩
  go_wp2_with fail
  refine HN.out.mono ?_
  rintro r w1 ⟨rfl, hb, hbel⟩
  have HB := Lib.hid (show Db w1.heap.size w.heap.size (M.make p e v) (w1.alloc (.cells (mc (M.make p e v) w.heap.size) DT)) from ⟨heap_alloc_new w1 _, hb.alloc _, by have := hb.lt; omega⟩)
  have HL := Lib.hid (hbel.alloc hbel.size (.cells (mc (M.make p e v) w.heap.size) DT))
  have hsz := hbel.size
  clear hb hbel
  go_wp2
  go_ret
  exact ⟨w1.heap.size, w.heap.size, rfl, HB.out, HL.out, hsz, Nat.le_refl _⟩
set_option maxRecDepth 100000 in
theorem dnew_no (p e : Nat) (v : Int) (w : World) (h : ¬ mayL p e v) :
    Calls Tryd.prog 48 #[.int .u8 p, .int .u64 e, .int .i64 v] w fun r w' => r = .returned (.pointer none) ∧ w = w' := by
  have HY := Lib.hid (rmayl_any p e v w)
  rw [decide_eq_false h] at HY
  clear h
  go_enter Tryd.func48, Tryd.ntmps48
  go_wp2_with fail
  refine HY.out.mono ?_
  rintro r w' ⟨rfl, rfl⟩
  go_wp2
  go_ret
  exact ⟨rfl, rfl⟩
set_option maxRecDepth 100000 in
theorem dlook_any (m : M) (c gm gl : Nat) (w : World) (h : Db gm gl m w) : Calls Tryd.prog 83 #[.pointer (some ⟨gm, 0, none⟩), .int .u64 c] w fun e w' => e = .returned (.int .i64 (m.look c).st) ∧ Db gm gl (m.look c) w' ∧ Kp w.heap.size gm w w' := by
  have c1 : w.cell? ⟨gm, 1, none⟩ = some (.int .i64 m.st) := h.a.cell _ rfl
  have c2 : w.cell? ⟨gm, 2, none⟩ = some (.int .u64 m.goal) := h.a.cell _ rfl
  have f1 : w.frozen? ⟨gm, 1, none⟩ = false := h.a.free
  by_cases h2 : m.st = 2
  · have t1 : ((m.st : Int) == 2) = true := by rw [h2]; rfl
    by_cases h3 : m.goal ≤ c
    · have HQ := Lib.hid (show m.look c = { m with st := 3 } by unfold M.look; rw [if_pos ⟨h2, h3⟩])
      have HB := Lib.hid (h.set (m' := { m with st := 3 }) 1 (.int .i64 3) rfl rfl)
      have HK := Lib.hid ((Kp.refl w.heap.size gm w).setCell ⟨gm, 1, none⟩ rfl (.int .i64 3))
      rw [HQ.out]
      clear h h2
      go_enter Tryd.func83, Tryd.ntmps83
      go_wp2
      go_ret
      exact ⟨rfl, HB.out, HK.out⟩
    · have HQ := Lib.hid (show m.look c = m by unfold M.look; rw [if_neg (fun hh => h3 hh.2)])
      have HB := Lib.hid h
      rw [HQ.out]
      clear h h2
      go_enter Tryd.func83, Tryd.ntmps83
      go_wp2
      go_ret
      exact ⟨rfl, HB.out, Kp.refl _ _ _⟩
  · have t1 : ((m.st : Int) == 2) = false := by rw [beq_eq_false_iff_ne]; omega
    have HQ := Lib.hid (show m.look c = m by unfold M.look; rw [if_neg (fun hh => h2 hh.1)])
    have HB := Lib.hid h
    rw [HQ.out]
    clear h h2
    go_enter Tryd.func83, Tryd.ntmps83
    go_wp2
    go_ret
    exact ⟨rfl, HB.out, Kp.refl _ _ _⟩
/-- Under way: the machine, its link, the packet that came. -/
structure Dx (w : World) (gm gl : Nat) (m : M) (k : K) (vi vp : Value) (W : World) : Prop where
  d : Db gm gl m W
  c : Blk W w.heap.size (pc k vi vp) RPk
  kq : Kq w.heap.size gm gl w W
theorem Dx.call {w : World} {gm gl : Nat} {m : M} {k : K} {vi vp : Value} {W W' : World} (h : Dx w gm gl m k vi vp W) (hb : Below W.heap.size W W') : Dx w gm gl m k vi vp W' :=
  ⟨h.d.call hb, (hb.block _ h.c.lt).trans h.c, h.kq.trans (kq_below (hb.mono h.kq.size))⟩
theorem Dx.link {w : World} {gm gl : Nat} {m : M} {k : K} {vi vp : Value} {W W' : World} {l' : L} (h : Dx w gm gl m k vi vp W) (hb : Blk W' gl (rlc l') RL) (hk : Kp W.heap.size gl W W') (hl : gl < w.heap.size) : Dx w gm gl { m with l := l' } k vi vp W' :=
  ⟨⟨(hk.block _ h.d.a.lt h.d.ne).trans h.d.a, hb, h.d.ne⟩, (hk.block _ h.c.lt (by omega)).trans h.c, h.kq.trans (kq_kp (hk.mono h.kq.size))⟩
theorem Dx.set {w : World} {gm gl : Nat} {m : M} {k : K} {vi vp : Value} {W : World} (h : Dx w gm gl m k vi vp W) (hm : gm < w.heap.size) (off : Nat) (v : Value) (m' : M) (hs : (mc m gl).setIfInBounds off v = mc m' gl) (hl : m'.l = m.l) : Dx w gm gl m' k vi vp (W.setCell ⟨gm, off, none⟩ v) :=
  ⟨h.d.set off v hs hl, far_blk h.c (by omega) _ _, h.kq.trans (kq_kp' ((Kp.refl _ _ _).setCell ⟨gm, off, none⟩ rfl v))⟩
set_option maxRecDepth 100000 in
set_option maxHeartbeats 4000000 in
/-- What the document's 'On' answers. -/
theorem don_any (m : M) (k : K) (vi vp : Value) (gm gl : Nat) (w : World) (h : Db gm gl m w) (hm : m.wf) (hk : k.wf) (hi : ∀ V, Kq w.heap.size gm gl w V → Ins V vi k.ins) (hp : ∀ V, Kq w.heap.size gm gl w V → Prs V vp k.prs) :
    Calls Tryd.prog 82 #[.pointer (some ⟨gm, 0, none⟩), .agg (pc k vi vp)] w fun r w' => r = .returned (.int .i64 (m.on k).2) ∧ Db gm gl (m.on k).1 w' ∧ Kq w.heap.size gm gl w w' := by
  have gmlt := h.a.lt
  have gllt := h.b.lt
  have hx0 : Dx w gm gl m k vi vp (w.alloc (.cells (pc k vi vp) RPk)) := ⟨⟨h.a.alloc _, h.b.alloc _, h.ne⟩, heap_alloc_new w _, kq_below ((Below.refl _ w).alloc (Nat.le_refl _) _)⟩
  have HAC := Lib.hid (fun V (d : Dx w gm gl m k vi vp V) => racc_any m.l k vi vp gl V d.d.b hm.l hk (fun U q => hi U (d.kq.trans (kq_kp (q.mono d.kq.size)))) (fun U q => hp U (d.kq.trans (kq_kp (q.mono d.kq.size)))))
  obtain ⟨A, hA⟩ : ∃ A, A = m.l.acc k := ⟨_, rfl⟩
  obtain ⟨l', E⟩ := A
  obtain ⟨R, hR⟩ : ∃ R, R = m.on k := ⟨_, rfl⟩
  rw [← hR]
  have hR2 : R = if E = 0 then (m.took k l', 0) else (m, E) := by rw [hR]; unfold M.on; rw [← hA]
  have hsame : E ≠ 0 → l' = m.l := by
    intro hE
    rcases acc_two m.l k with h1 | h1
    · rw [← hA] at h1; exact h1
    · rw [← hA] at h1; exact absurd h1 hE
  rw [← hA] at HAC
  dsimp only at HAC
  have HR := Lib.hid hR2
  have HSAME := Lib.hid hsame
  clear hA hR hR2 hsame hi hp hk hm h
  have c0 : (w.alloc (.cells (pc k vi vp) RPk)).cell? ⟨gm, 0, none⟩ = some (.pointer (some ⟨gl, 0, none⟩)) := hx0.d.a.cell _ rfl
  have c3 : (w.alloc (.cells (pc k vi vp) RPk)).cell? ⟨gl, 3, none⟩ = some (.int .u64 m.l.epoch) := hx0.d.b.cell _ rfl
  go_enter Tryd.func82, Tryd.ntmps82
  go_upto_region 2 with fail
  clear c0 c3
  change Code.wp _ _ _ _ (w.alloc (.cells (pc k vi vp) RPk))
  generalize w.alloc (.cells (pc k vi vp) RPk) = w1 at *
  refine Draw.wp_region_prefix 5 (Dx w gm gl m k vi vp) (fun W W' => Below W.heap.size W W') (fun i W vv => match i with
      | 0 => vv = .pointer (some ⟨gm, 0, none⟩)
      | 1 => vv = .pointer (some ⟨gm, 0, none⟩)
      | 2 => vv = .pointer (some ⟨gm, 0, none⟩)
      | 3 => vv = .pointer (some ⟨gl, 0, none⟩)
      | _ => vv = .agg (pc k vi vp)) (by kernel_rfl) (by kernel_rfl) (by decide) rfl (by decide) (by decide) (by decide) ?_ (hx0.call (Below.refl _ _).drew) ?_ [14, 15, 16, 17, 18] (by rfl) 2 (by rfl) ?_
  · intro i W W' vv he hf
    exact hf
  · refine ⟨?_, ?_, ?_, ?_, ?_, trivial⟩
    all_goals intro ρ W hJ hc hf hKn
    · refine Draw.Goes.plain rfl ?_
      exact Draw.Runs.value (w' := W) (v := ρ (.tmp 0)) rfl ⟨hJ, Below.refl _ _, hKn.1.2 0 rfl⟩
    · refine Draw.Goes.plain rfl ?_
      have h0 : ρ (.tmp 14) = .pointer (some ⟨gm, 0, none⟩) := hKn.1.get 0 14 rfl rfl
      refine Draw.Runs.value (w' := W) (v := .pointer (some ⟨gm, 0, none⟩)) ?_ ⟨hJ, Below.refl _ _, rfl⟩
      simp only [execOp]; go_simp
    · refine Draw.Goes.plain rfl ?_
      have h0 : ρ (.tmp 15) = .pointer (some ⟨gm, 0, none⟩) := hKn.1.get 1 15 rfl rfl
      refine Draw.Runs.value (w' := W) (v := .pointer (some ⟨gm, 0, none⟩)) ?_ ⟨hJ, Below.refl _ _, rfl⟩
      simp only [execOp]; go_simp
    · refine Draw.Goes.plain rfl ?_
      have h0 : ρ (.tmp 16) = .pointer (some ⟨gm, 0, none⟩) := hKn.1.get 2 16 rfl rfl
      have c : W.cell? ⟨gm, 0, none⟩ = some (.pointer (some ⟨gl, 0, none⟩)) := hJ.d.a.cell _ rfl
      refine Draw.Runs.value (w' := W) (v := .pointer (some ⟨gl, 0, none⟩)) ?_ ⟨hJ, Below.refl _ _, rfl⟩
      simp only [execOp]; go_simp
    · refine Draw.Goes.plain rfl ?_
      have h0 : ρ (.tmp 3) = .pointer (some ⟨w.heap.size, 0, none⟩) := hKn.1.2 3 rfl
      refine Draw.Runs.value (w' := W) (v := .agg (pc k vi vp)) ?_ ⟨hJ, Below.refl _ _, rfl⟩
      exact Draw.load_row RPk _ rfl _ h0 RPk _ (0, 0) _ hJ.c Tryd.underlying34 rfl (rpc_info k vi vp)
  · intro u W hJ hf
    have r17 : u 17 = .pointer (some ⟨gl, 0, none⟩) := hf 3 _ 17 (by decide) rfl rfl
    have r18 : u 18 = .agg (pc k vi vp) := hf 4 _ 18 (by decide) rfl rfl
    simp only [List.foldl_cons, List.foldl_nil, List.setIfInBounds_toArray, List.set_cons_succ, List.set_cons_zero, r17, r18]
    have hJ1 := hJ
    clear hJ hf
    refine Draw.wpAny_one (i := 5) (by kernel_rfl) rfl rfl ?_
    refine runs_at (some 19) rfl (R := fun V z => z = .int .i64 E ∧ Blk V gl (rlc l') RL ∧ Kp W.heap.size gl W V) (Draw.Runs.enter (f := 75) (args := #[.pointer (some ⟨gl, 0, none⟩), .agg (pc k vi vp)]) (by simp only [execOp]; go_simp) ((HAC.out W hJ1).mono fun e W' ⟨he, hb⟩ => ⟨_, he, rfl, hb⟩)) ?_
    rintro W2 z ⟨rfl, hb2, hk2⟩
    refine Draw.wpAny_one (i := 6) (by kernel_rfl) rfl rfl ?_
    refine wp_value_at (some 6) rfl (v := .int .i64 E) (w' := W2) (by simp only [execOp]; go_simp) ?_
    refine Draw.wpAny_end (by kernel_rfl) ?_
    simp only [Act.put, List.setIfInBounds_toArray, List.set_cons_succ, List.set_cons_zero]
    have hx2 : Dx w gm gl { m with l := l' } k vi vp W2 := hJ1.link hb2 hk2 gllt
    clear hb2 hk2 hJ1 hx0
    by_cases hE : E = 0
    case neg =>
      obtain rfl : R = (m, E) := HR.out.trans (if_neg hE)
      have hEn : (E != 0) = true := by rw [bne_iff_ne]; exact hE
      obtain rfl := HSAME.out hE
      have HX := Lib.hid hx2
      clear hx2 hE
      go_wp2
      go_ret
      exact ⟨rfl, HX.out.d, HX.out.kq⟩
    case pos =>
      subst hE
      obtain rfl : R = (m.took k l', 0) := HR.out.trans (if_pos rfl)
      have c0 : W2.cell? ⟨gm, 0, none⟩ = some (.pointer (some ⟨gl, 0, none⟩)) := hx2.d.a.cell _ rfl
      have c3 : W2.cell? ⟨gl, 3, none⟩ = some (.int .u64 l'.epoch) := hx2.d.b.cell _ rfl
      have f1 : W2.frozen? ⟨gm, 1, none⟩ = false := hx2.d.a.free
      have c1 := hx2.d.a.cell (off := 1) _ rfl
      have HX := Lib.hid hx2
      clear hx2
      obtain ⟨s1, hs1⟩ : ∃ s1, s1 = m.st1 l' := ⟨_, rfl⟩
      have HS1 := Lib.hid hs1
      clear hs1
      go_upto_region 5 with fail
      go_cut [31] (fun z wx => z = .bool (decide (l'.epoch ≠ m.l.epoch)) ∧ W2 = wx)
      case first =>
        go_wp2
        go_meet
        refine ⟨?_, rfl⟩
        congr 1
        rw [Bool.eq_iff_iff, bne_iff_ne, decide_eq_true_iff]
        omega
      case rest =>
      obtain ⟨rfl, rfl⟩ := hcut
      go_upto_if 31 with fail
      go_cut [] (fun wx => Dx w gm gl { m with l := l', st := s1 } k vi vp wx)
      case first =>
        by_cases he : l'.epoch = m.l.epoch
        · rw [decide_eq_false (fun hh => hh he)]
          have HQ := Lib.hid (show s1 = m.st by rw [HS1.out]; unfold M.st1; rw [if_pos he])
          clear he
          go_wp2
          go_meet
          rw [HQ.out]
          exact HX.out
        · rw [decide_eq_true he]
          have HQ := Lib.hid (show s1 = 1 by rw [HS1.out]; unfold M.st1; rw [if_neg he])
          have HS := Lib.hid (HX.out.set gmlt 1 (.int .i64 1) { m with l := l', st := 1 } rfl rfl)
          clear he
          go_wp2
          go_meet
          rw [HQ.out]
          exact HS.out
      case rest =>
      have hx3 := hcut
      clear hcut HX c0 c3 f1 c1
      have HX := Lib.hid hx3
      have b0 : wc.cell? ⟨w.heap.size, 0, none⟩ = some (.int .i64 k.kind) := hx3.c.cell _ rfl
      have f3 : wc.frozen? ⟨gm, 3, none⟩ = false := hx3.d.a.free
      have c3 := hx3.d.a.cell (off := 3) _ rfl
      clear hx3
      obtain ⟨O, hO⟩ : ∃ O, O = (m.owes || decide (k.kind = 1)) := ⟨_, rfl⟩
      have HO := Lib.hid hO
      clear hO
      go_upto_region 7 with fail
      go_cut [37] (fun z wx => z = .bool (decide (k.kind = 1)) ∧ wc = wx)
      case first =>
        go_wp2
        go_meet
        refine ⟨?_, rfl⟩
        congr 1
      case rest =>
      obtain ⟨rfl, rfl⟩ := hcut
      go_upto_if 37 with fail
      go_cut [] (fun wx => Dx w gm gl { m with l := l', owes := O, st := s1 } k vi vp wx)
      case first =>
        by_cases h1 : k.kind = 1
        · rw [decide_eq_true h1]
          have HQ := Lib.hid (show O = true by rw [HO.out, decide_eq_true h1, Bool.or_true])
          have HS := Lib.hid (HX.out.set gmlt 3 (.bool true) { m with l := l', owes := true, st := s1 } rfl rfl)
          clear h1
          go_wp2
          go_meet
          rw [HQ.out]
          exact HS.out
        · rw [decide_eq_false h1]
          have HQ := Lib.hid (show O = m.owes by rw [HO.out, decide_eq_false h1, Bool.or_false])
          clear h1
          go_wp2
          go_meet
          rw [HQ.out]
          exact HX.out
      case rest =>
      have hx4 := hcut
      clear hcut HX b0 f3 c3
      have c0 : wc.cell? ⟨gm, 0, none⟩ = some (.pointer (some ⟨gl, 0, none⟩)) := hx4.d.a.cell _ rfl
      have c1 : wc.cell? ⟨gm, 1, none⟩ = some (.int .i64 s1) := hx4.d.a.cell _ rfl
      have c2 : wc.cell? ⟨gm, 2, none⟩ = some (.int .u64 m.goal) := hx4.d.a.cell _ rfl
      have d6 : wc.cell? ⟨gl, 6, none⟩ = some (.bool l'.met) := hx4.d.b.cell _ rfl
      have d4 : wc.cell? ⟨gl, 4, none⟩ = some (.int .u64 l'.count) := hx4.d.b.cell _ rfl
      have f1 : wc.frozen? ⟨gm, 1, none⟩ = false := hx4.d.a.free
      have f2 : wc.frozen? ⟨gm, 2, none⟩ = false := hx4.d.a.free
      have HX := Lib.hid hx4
      clear hx4
      obtain ⟨B, hB⟩ : ∃ B, B = l'.met := ⟨_, rfl⟩
      have HB := Lib.hid hB
      rw [← hB] at d6
      clear hB
      by_cases h1 : s1 = 1
      · have t1 : ((s1 : Int) == 1) = true := by rw [h1]; rfl
        cases B with
        | true =>
          have HQ := Lib.hid (show m.took k l' = { m with l := l', owes := O, st := 2, goal := l'.count } by
            unfold M.took M.met1
            rw [← HS1.out, decide_eq_true h1, ← HB.out, HO.out]; rfl)
          have HS := Lib.hid ((HX.out.set gmlt 2 (.int .u64 l'.count) { m with l := l', owes := O, st := s1, goal := l'.count } rfl rfl).set gmlt 1 (.int .i64 2) { m with l := l', owes := O, st := 2, goal := l'.count } rfl rfl)
          clear h1
          go_wp2
          go_ret
          exact ⟨rfl, by rw [HQ.out]; exact HS.out.d, HS.out.kq⟩
        | false =>
          have HQ := Lib.hid (show m.took k l' = { m with l := l', owes := O, st := s1 } by
            unfold M.took M.met1
            rw [← HS1.out, ← HB.out, HO.out, Bool.and_false]; rfl)
          clear h1
          go_wp2
          go_ret
          exact ⟨rfl, by rw [HQ.out]; exact HX.out.d, HX.out.kq⟩
      · have t1 : ((s1 : Int) == 1) = false := by rw [beq_eq_false_iff_ne]; omega
        have HQ := Lib.hid (show m.took k l' = { m with l := l', owes := O, st := s1 } by
          unfold M.took M.met1
          rw [← HS1.out, decide_eq_false h1, HO.out, Bool.false_and]; rfl)
        clear h1
        go_wp2
        go_ret
        exact ⟨rfl, by rw [HQ.out]; exact HX.out.d, HX.out.kq⟩
set_option maxRecDepth 100000 in
set_option maxHeartbeats 1000000 in
/-- A packet that the document's machine tells. -/
theorem dtold_any (kd : Int) (m : M) (cn ow gm gl : Nat) (w : World) (h : Db gm gl m w) (hm : m.wf) :
    Calls Tryd.prog 108 #[.pointer (some ⟨gm, 0, none⟩), .int .i64 kd, .int .u64 cn, .int .u64 ow] w fun r w' => r = .returned (.agg (pc (told m.l kd cn ow) nS nS)) ∧ Below w.heap.size w w' := by
  have hx0 := h.call (bel_alloc w (.cells (pc K.zero nS nS) RPk))
  have hz0 : Blk (w.alloc (.cells (pc K.zero nS nS) RPk)) w.heap.size (pc K.zero nS nS) RPk := heap_alloc_new w _
  have hB0 := bel_alloc w (.cells (pc K.zero nS nS) RPk)
  have c0 : (w.alloc (.cells (pc K.zero nS nS) RPk)).cell? ⟨gm, 0, none⟩ = some (.pointer (some ⟨gl, 0, none⟩)) := hx0.a.cell _ rfl
  have HHD := Lib.hid (rhdr_any m.l kd cn gl _ hx0.b hm.l)
  clear hm h
  go_enter Tryd.func108, Tryd.ntmps108
  go_upto_region 1 with fail
  change Code.wp _ _ _ _ (w.alloc (.cells (pc K.zero nS nS) RPk))
  generalize w.alloc (.cells (pc K.zero nS nS) RPk) = w0 at *
  go_wp2_with fail
  refine HHD.out.mono ?_
  rintro r w1 ⟨rfl, hb⟩
  have hz1 : Blk w1 w.heap.size (pc K.zero nS nS) RPk := (hb.block _ hz0.lt).trans hz0
  have hB1 : Below w.heap.size w w1 := hB0.trans (hb.mono hB0.size)
  have hlt := hz1.lt
  have h9 : Blk (w1.alloc (.cells (pc K.zero nS nS) RPk)) w1.heap.size (pc K.zero nS nS) RPk := heap_alloc_new w1 _
  have hs9 : Blk ((w1.alloc (.cells (pc K.zero nS nS) RPk)).setRow w1.heap.size (pc (m.l.hdr kd cn) nS nS)) w1.heap.size (pc (m.l.hdr kd cn) nS nS) RPk := setRow_heap _ _ _ _ _ _ h9
  have hB2 : Below w1.heap.size w1 ((w1.alloc (.cells (pc K.zero nS nS) RPk)).setRow w1.heap.size (pc (m.l.hdr kd cn) nS nS)) := below_setRow (bel_alloc _ _) (Nat.le_refl _) _
  have H9 := Lib.hid h9
  clear hb hz0 hB0 hx0 c0 h9 HHD
  go_upto_region 2 with (refine rstore_pk (.tmp 9) (.tmp 16) w1.heap.size K.zero (m.l.hdr kd cn) nS nS nS nS slnil H9.out rfl rfl rfl rfl rfl ?_)
  change Code.wp _ _ _ _ ((w1.alloc (.cells (pc K.zero nS nS) RPk)).setRow w1.heap.size (pc (m.l.hdr kd cn) nS nS))
  clear H9
  generalize (w1.alloc (.cells (pc K.zero nS nS) RPk)).setRow w1.heap.size (pc (m.l.hdr kd cn) nS nS) = w2 at *
  have hz2 : Blk w2 w.heap.size (pc K.zero nS nS) RPk := (hB2.block _ hlt).trans hz1
  have hB3 : Below w.heap.size w w2 := hB1.trans (hB2.mono hB1.size)
  have hge := hB1.size
  generalize w1.heap.size = g9 at *
  have c5 := hs9.cell (off := 5) _ rfl
  have f5 : w2.frozen? ⟨g9, 5, none⟩ = false := hs9.free
  have hs10 := hs9.set (off := 5) (.int .u64 ow)
  have hz10 := far_blk hz2 (by omega : g9 ≠ w.heap.size) 5 (.int .u64 ow)
  have hB10 := hB3.setCell (p := ⟨g9, 5, none⟩) hge (.int .u64 ow)
  by_cases hlo : ow < cn
  · have c5' := hs10.cell (off := 5) _ rfl
    have f5' : (w2.setCell ⟨g9, 5, none⟩ (.int .u64 ow)).frozen? ⟨g9, 5, none⟩ = false := hs10.free
    have HF := Lib.hid (show Blk ((w2.setCell ⟨g9, 5, none⟩ (.int .u64 ow)).setCell ⟨g9, 5, none⟩ (.int .u64 cn)) g9 (pc (told m.l kd cn ow) nS nS) RPk by
      have e := hs10.set (off := 5) (.int .u64 cn)
      have q : told m.l kd cn ow = { m.l.hdr kd cn with own := cn } := by unfold told; rw [Nat.max_eq_right (Nat.le_of_lt hlo)]
      rw [q]; exact e)
    have HZ := Lib.hid (far_blk hz10 (by omega : g9 ≠ w.heap.size) 5 (.int .u64 cn))
    have HB := Lib.hid (hB10.setCell (p := ⟨g9, 5, none⟩) hge (.int .u64 cn))
    clear hs10 hz10 hB10 hs9 hz2 hB3 hB2 hz1
    go_wp2_with (first | (refine rload_pk (.tmp 9) g9 (told m.l kd cn ow) nS nS HF.out rfl rfl rfl ?_) | (refine rstore_pk (.tmp 8) (.tmp 24) w.heap.size K.zero (told m.l kd cn ow) nS nS nS nS slnil HZ.out rfl rfl rfl rfl rfl ?_))
    exact bodyPost_ret (v := .agg (pc (told m.l kd cn ow) nS nS)) (results_cell_row rfl _ _ w.heap.size RPk (pc (told m.l kd cn ow) nS nS) (0, 0) _ rfl (setRow_heap _ _ _ _ _ _ HZ.out) Tryd.underlying34 rfl (rpc_info _ _ _)) rfl ⟨rfl, below_setRow HB.out (Nat.le_refl _) _⟩
  · have HF := Lib.hid (show Blk (w2.setCell ⟨g9, 5, none⟩ (.int .u64 ow)) g9 (pc (told m.l kd cn ow) nS nS) RPk by
      have q : told m.l kd cn ow = { m.l.hdr kd cn with own := ow } := by unfold told; rw [Nat.max_eq_left (Nat.le_of_not_lt hlo)]
      rw [q]; exact hs10)
    have HZ := Lib.hid hz10
    have HB := Lib.hid hB10
    clear hs10 hz10 hB10 hs9 hz2 hB3 hB2 hz1
    go_wp2_with (first | (refine rload_pk (.tmp 9) g9 (told m.l kd cn ow) nS nS HF.out rfl rfl rfl ?_) | (refine rstore_pk (.tmp 8) (.tmp 24) w.heap.size K.zero (told m.l kd cn ow) nS nS nS nS slnil HZ.out rfl rfl rfl rfl rfl ?_))
    exact bodyPost_ret (v := .agg (pc (told m.l kd cn ow) nS nS)) (results_cell_row rfl _ _ w.heap.size RPk (pc (told m.l kd cn ow) nS nS) (0, 0) _ rfl (setRow_heap _ _ _ _ _ _ HZ.out) Tryd.underlying34 rfl (rpc_info _ _ _)) rfl ⟨rfl, below_setRow HB.out (Nat.le_refl _) _⟩
abbrev DST := 138
theorem infoR : (Tryd.prog.info? RPk).map (fun i => (i.zero, i.size, i.bytes)) = some (some (.agg (pc K.zero nS nS)), 11, 120) := by kernel_rfl
theorem rbuild_run {op : Oper} {ρ : Operand → Value} {w : World} (x : Operand) (k : K) (ho : op.op = .buildSlice DST 1 #[(0, x)]) (hx : ρ x = .agg (pc k nS nS)) :
    (execOp ρ op).run Tryd.prog w = .ok (.value (.slice (some ⟨w.heap.size, 0, none⟩) 1 1)) (w.alloc (.cells (pc k nS nS) RPk)) := by
  unfold pc at hx
  unfold pc
  simp only [execOp, ho]
  go_simp
theorem rbuild_pk {ops : Array Oper} {rest : List Oper} {op : Oper} {a : Act} {w : World} {Q : Exit → Act → World → Prop} (x : Operand) (k : K) (hgd : op.guard = none) (ho : op.op = .buildSlice DST 1 #[(0, x)])
    (hx : a.eval x = .agg (pc k nS nS)) (h : wpList Tryd.prog ops Q rest (a.put op.dst (.slice (some ⟨w.heap.size, 0, none⟩) 1 1)) (w.alloc (.cells (pc k nS nS) RPk))) : wpList Tryd.prog ops Q (op :: rest) a w :=
  wpList_plain hgd fun _ hK => Draw.wp_value (rbuild_run x k ho hx) (hK _ _ h)
/-- Within the document's Out: the machine, the list so far. -/
structure Dy (w : World) (gm gl : Nat) (m : M) (v : Value) (l : List K) (W : World) : Prop where
  d : Db gm gl m W
  own : W.ownsRow w.heap.size RPk 11 v l.length (pks l)
  kq : Kq w.heap.size gm gl w W
theorem Dy.call {w W W' : World} {gm gl : Nat} {m : M} {v : Value} {l : List K} (h : Dy w gm gl m v l W) (hb : Below W.heap.size W W') : Dy w gm gl m v l W' :=
  ⟨h.d.call hb, ownb h.own hb, h.kq.trans (kq_below (hb.mono h.kq.size))⟩
theorem Dy.grown {w W W' : World} {gm gl : Nat} {m : M} {v v' : Value} {l l' : List K} (h : Dy w gm gl m v l W) (hm : gm < w.heap.size) (hl : gl < w.heap.size) (hg : W.grownBy W' v.ownBlock) (ho : W'.ownsRow w.heap.size RPk 11 v' l'.length (pks l')) : Dy w gm gl m v' l' W' := by
  have hlt := h.own.lt
  exact ⟨⟨(hg.block gm h.d.a.lt (fun e => by have := (hlt _ e.symm).1; omega)).trans h.d.a, (hg.block gl h.d.b.lt (fun e => by have := (hlt _ e.symm).1; omega)).trans h.d.b, h.d.ne⟩, ho,
    h.kq.trans (kq_below ((Below.refl w.heap.size W).grown hg h.kq.size (fun k e => (hlt k e).1)))⟩
theorem Dy.set {w W : World} {gm gl : Nat} {m m' : M} {v : Value} {l : List K} (h : Dy w gm gl m v l W) (hm : gm < w.heap.size) (off : Nat) (u : Value) (hs : (mc m gl).setIfInBounds off u = mc m' gl) (hl : m'.l = m.l) : Dy w gm gl m' v l (W.setCell ⟨gm, off, none⟩ u) :=
  ⟨h.d.set off u hs hl, ownf h.own hm _ _, h.kq.trans (kq_kp' ((Kp.refl _ _ _).setCell ⟨gm, off, none⟩ rfl u))⟩
theorem Dy.link {w W W' : World} {gm gl : Nat} {m : M} {l' : L} {v : Value} {l : List K} (h : Dy w gm gl m v l W) (hb : Blk W' gl (rlc l') RL) (hk : Kp W.heap.size gl W W') (hl : gl < w.heap.size) : Dy w gm gl { m with l := l' } v l W' :=
  ⟨⟨(hk.block _ h.d.a.lt h.d.ne).trans h.d.a, hb, h.d.ne⟩, ownk h.own hk hl, h.kq.trans (kq_kp (hk.mono h.kq.size))⟩
set_option maxRecDepth 100000 in
set_option maxHeartbeats 4000000 in
/-- What the document's 'Out' tells. -/
theorem dout_any (m : M) (now cn ow gm gl : Nat) (w : World) (h : Db gm gl m w) (hm : m.wf) (hn : now < 18446744073709551616) :
    Calls Tryd.prog 84 #[.pointer (some ⟨gm, 0, none⟩), .int .u64 now, .int .u64 cn, .int .u64 ow] w fun r w' => ∃ v, r = .returned v ∧ Db gm gl (m.outs now) w' ∧ w'.ownsRow w.heap.size RPk 11 v (m.out now cn ow).length (pks (m.out now cn ow)) ∧ Kq w.heap.size gm gl w w' := by
  have gmlt := h.a.lt
  have gllt := h.b.lt
  obtain ⟨i0, hi, hz0, hz1, hz2⟩ := info_parts infoR
  have HD := Lib.hid (show Dy w gm gl m (.slice none 0 0) [] w from ⟨h, ⟨rfl, .inl ⟨rfl, rfl⟩⟩, kq_below (Below.refl _ _)⟩)
  have HW := Lib.hid hm
  have HWX := Lib.hid hm
  have HLE := Lib.hid (show ([] : List K).length ≤ 1 by decide)
  have HTO := Lib.hid (fun (kd : Int) (m' : M) W (d : Db gm gl m' W) (hw : m'.wf) => dtold_any kd m' cn ow gm gl W d hw)
  obtain ⟨l1, hl1⟩ : ∃ x, x = (if m.owes then [told m.l 2 cn ow] else []) := ⟨_, rfl⟩
  have HL1 := Lib.hid hl1
  have HLE1 := Lib.hid (show l1.length ≤ 1 by rw [hl1]; split <;> simp)
  have c3 : w.cell? ⟨gm, 3, none⟩ = some (.bool m.owes) := h.a.cell _ rfl
  clear hl1 hm h
  go_enter Tryd.func84, Tryd.ntmps84
  go_upto_if 15 with fail
  go_cut [9] (fun z wx => Dy w gm gl { m with owes := false } z l1 wx)
  case first =>
    cases hw : m.owes with
    | true =>
      have HE := Lib.hid (show [told m.l 2 cn ow] = l1 by rw [HL1.out, hw]; rfl)
      clear hw c3
      go_wp2_with fail
      refine (HTO.out 2 m _ HD.out.d HWX.out).mono ?_
      rintro r w2 ⟨rfl, hb⟩
      have d2 := HD.out.call hb
      have h10 : Blk (w2.alloc (.cells (pc K.zero nS nS) RPk)) w2.heap.size (pc K.zero nS nS) RPk := heap_alloc_new w2 _
      have H10 := Lib.hid h10
      have h11 : Blk ((w2.alloc (.cells (pc K.zero nS nS) RPk)).setRow w2.heap.size (pc (told m.l 2 cn ow) nS nS)) w2.heap.size (pc (told m.l 2 cn ow) nS nS) RPk := setRow_heap _ _ _ _ _ _ h10
      have d3 := d2.call (below_setRow (bel_alloc w2 (.cells (pc K.zero nS nS) RPk)) (Nat.le_refl _) (pc (told m.l 2 cn ow) nS nS))
      clear hb d2 h10
      go_upto_region 4 with (refine rstore_pk (.tmp 10) (.tmp 19) w2.heap.size K.zero (told m.l 2 cn ow) nS nS nS nS slnil H10.out rfl rfl rfl rfl rfl ?_)
      change Code.wp _ _ _ _ ((w2.alloc (.cells (pc K.zero nS nS) RPk)).setRow w2.heap.size (pc (told m.l 2 cn ow) nS nS))
      clear H10
      generalize (w2.alloc (.cells (pc K.zero nS nS) RPk)).setRow w2.heap.size (pc (told m.l 2 cn ow) nS nS) = w3 at *
      generalize w2.heap.size = g10 at *
      obtain ⟨tk, htk⟩ : ∃ x, x = told m.l 2 cn ow := ⟨_, rfl⟩
      rw [← htk] at h11
      have HTK := Lib.hid htk
      clear htk
      have hn8 : Blk (w3.alloc (.cells (pc tk nS nS) RPk)) w3.heap.size (pc tk nS nS) RPk := heap_alloc_new w3 _
      have d8 := d3.call (bel_alloc w3 (.cells (pc tk nS nS) RPk))
      have hsz8 : (w3.alloc (.cells (pc tk nS nS) RPk)).heap.size = w3.heap.size + 1 := by simp
      have hszc := d3.kq.size
      have hlle := HLE.out
      have hlen1 : (([] : List K)).length + 1 ≤ maxLen := by unfold maxLen; omega
      clear d3
      go_wp2_with (first | (refine rload_pk (.tmp 10) g10 tk _ _ h11 rfl rfl rfl ?_) | (refine rbuild_pk (.tmp 21) tk rfl rfl rfl ?_) | (at_builtin; refine wpList_append_lies _ rfl (.tmp 20) (.tmp 22) DST rfl w.heap.size RPk i0 _ 11 120 Tryd.underlying138 hi hz0 hz1 hz2 rfl (by decide) _ (([] : List K)).length (pks (([] : List K))) rfl d8.own ⟨w3.heap.size, 0, none⟩ 1 1 (pc tk nS nS).toList rfl rfl (World.news_of_block hn8) (pk_one tk) (by decide) hlen1 (by omega) (by omega) _ rfl ?_))
      intro g cap w4 hown4 hgrow hat hlt4
      have d9 := d8.grown (l' := ([] : List K) ++ [tk]) gmlt gllt hgrow (by rw [List.length_append, pks_app]; exact hown4)
      clear d8 hown4 hgrow hn8 h11
      have c3' := d9.d.a.cell (off := 3) _ rfl
      have f3' : w4.frozen? ⟨gm, 3, none⟩ = false := d9.d.a.free
      have HD9 := Lib.hid (d9.set gmlt (m' := { m with owes := false }) 3 (.bool false) rfl rfl)
      clear d9
      go_wp2
      go_meet
      rw [← HE.out, ← HTK.out]
      exact HD9.out
    | false =>
      have HE := Lib.hid (show [] = l1 by rw [HL1.out, hw]; rfl)
      have HQ := Lib.hid (show { m with owes := false } = m by rw [← hw])
      clear hw c3
      go_wp2
      go_meet
      rw [HQ.out, ← HE.out]
      exact HD.out
  case rest =>
  clear HD
  have HL := Lib.hid HW.out.l
  obtain ⟨S, hS⟩ : ∃ S, S = m.says now := ⟨_, rfl⟩
  have HS := Lib.hid hS
  have c1 : wc.cell? ⟨gm, 1, none⟩ = some (.int .i64 m.st) := hcut.d.a.cell _ rfl
  have c2 : wc.cell? ⟨gm, 0, none⟩ = some (.pointer (some ⟨gl, 0, none⟩)) := hcut.d.a.cell _ rfl
  have HX := Lib.hid hcut
  have HDU := Lib.hid (rdue_any m.l gl now wc hcut.d.b HW.out.l hn)
  clear hcut hS c3
  go_upto_region 6 with fail
  go_cut [39] (fun z wx => z = .bool S ∧ Dy w gm gl { m with owes := false } u9 l1 wx)
  case first =>
    by_cases h1 : m.st = 1
    · have t1 : ((m.st : Int) == 1) = true := by rw [h1]; rfl
      have HQ := Lib.hid (show S = m.l.due now by rw [HS.out]; unfold M.says; rw [decide_eq_true h1, Bool.true_and])
      clear h1
      go_wp2_with fail
      refine HDU.out.mono ?_
      rintro r w2 ⟨rfl, hb⟩
      have HX2 := Lib.hid (HX.out.call hb)
      clear hb
      go_wp2
      go_meet
      exact ⟨by rw [HQ.out], HX2.out⟩
    · have t1 : ((m.st : Int) == 1) = false := by rw [beq_eq_false_iff_ne]; omega
      have HQ := Lib.hid (show S = false by rw [HS.out]; unfold M.says; rw [decide_eq_false h1, Bool.false_and])
      clear h1
      go_wp2
      go_meet
      exact ⟨by rw [HQ.out], HX.out⟩
  case rest =>
  obtain ⟨rfl, hX2⟩ := hcut
  clear c1 c2 HDU HX HWX HLE
  have HD := Lib.hid hX2
  have HWX := Lib.hid (show M.wf { m with owes := false } from ⟨HW.out.l, HW.out.st, HW.out.goal⟩)
  have HLE := Lib.hid HLE1.out
  clear hX2
  go_upto_if 39 with fail
  go_cut [9] (fun z wx => Dy w gm gl (m.outs now) z (m.out now cn ow) wx)
  case first =>
    cases S with
    | true =>
      have HO := Lib.hid (show m.outs now = { { m with owes := false } with l := m.l.sent now } by unfold M.outs; rw [← HS.out]; rfl)
      have HLL := Lib.hid (show m.out now cn ow = l1 ++ [told m.l 1 cn ow] by unfold M.out; rw [← HS.out, HL1.out]; rfl)
      go_wp2_with fail
      refine (HTO.out 1 { m with owes := false } _ HD.out.d HWX.out).mono ?_
      rintro r w2 ⟨rfl, hb⟩
      have d2 := HD.out.call hb
      have h10 : Blk (w2.alloc (.cells (pc K.zero nS nS) RPk)) w2.heap.size (pc K.zero nS nS) RPk := heap_alloc_new w2 _
      have H10 := Lib.hid h10
      have h11 : Blk ((w2.alloc (.cells (pc K.zero nS nS) RPk)).setRow w2.heap.size (pc (told m.l 1 cn ow) nS nS)) w2.heap.size (pc (told m.l 1 cn ow) nS nS) RPk := setRow_heap _ _ _ _ _ _ h10
      have d3 := d2.call (below_setRow (bel_alloc w2 (.cells (pc K.zero nS nS) RPk)) (Nat.le_refl _) (pc (told m.l 1 cn ow) nS nS))
      clear hb d2 h10
      go_upto_region 8 with (refine rstore_pk (.tmp 11) (.tmp 43) w2.heap.size K.zero (told m.l 1 cn ow) nS nS nS nS slnil H10.out rfl rfl rfl rfl rfl ?_)
      change Code.wp _ _ _ _ ((w2.alloc (.cells (pc K.zero nS nS) RPk)).setRow w2.heap.size (pc (told m.l 1 cn ow) nS nS))
      clear H10
      generalize (w2.alloc (.cells (pc K.zero nS nS) RPk)).setRow w2.heap.size (pc (told m.l 1 cn ow) nS nS) = w3 at *
      generalize w2.heap.size = g10 at *
      obtain ⟨tk, htk⟩ : ∃ x, x = told m.l 1 cn ow := ⟨_, rfl⟩
      rw [← htk] at h11
      have HTK := Lib.hid htk
      clear htk
      have hn8 : Blk (w3.alloc (.cells (pc tk nS nS) RPk)) w3.heap.size (pc tk nS nS) RPk := heap_alloc_new w3 _
      have d8 := d3.call (bel_alloc w3 (.cells (pc tk nS nS) RPk))
      have hsz8 : (w3.alloc (.cells (pc tk nS nS) RPk)).heap.size = w3.heap.size + 1 := by simp
      have hszc := d3.kq.size
      have hlle := HLE.out
      have hlen1 : (l1).length + 1 ≤ maxLen := by unfold maxLen; omega
      clear d3
      go_wp2_with (first | (refine rload_pk (.tmp 11) g10 tk _ _ h11 rfl rfl rfl ?_) | (refine rbuild_pk (.tmp 45) tk rfl rfl rfl ?_) | (at_builtin; refine wpList_append_lies _ rfl (.tmp 44) (.tmp 46) DST rfl w.heap.size RPk i0 _ 11 120 Tryd.underlying138 hi hz0 hz1 hz2 rfl (by decide) _ (l1).length (pks (l1)) rfl d8.own ⟨w3.heap.size, 0, none⟩ 1 1 (pc tk nS nS).toList rfl rfl (World.news_of_block hn8) (pk_one tk) (by decide) hlen1 (by omega) (by omega) _ rfl ?_))
      intro g cap w4 hown4 hgrow hat hlt4
      have d9 := d8.grown (l' := l1 ++ [tk]) gmlt gllt hgrow (by rw [List.length_append, pks_app]; exact hown4)
      clear d8 hown4 hgrow hn8 h11
      have c2' : w4.cell? ⟨gm, 0, none⟩ = some (.pointer (some ⟨gl, 0, none⟩)) := d9.d.a.cell _ rfl
      have HSE := Lib.hid (rsent_any m.l gl now w4 d9.d.b HL.out hn)
      have HD9 := Lib.hid d9
      clear d9
      go_wp2_with fail
      refine HSE.out.mono ?_
      rintro r w5 ⟨rfl, hb5, hk5⟩
      have HD5 := Lib.hid (HD9.out.link hb5 hk5 gllt)
      clear hb5 hk5
      go_wp2
      go_meet
      rw [HO.out, HLL.out, ← HTK.out]
      exact HD5.out
    | false =>
      have HO := Lib.hid (show m.outs now = { m with owes := false } by unfold M.outs; rw [← HS.out]; rfl)
      have HLL := Lib.hid (show m.out now cn ow = l1 by unfold M.out; rw [← HS.out, HL1.out]; exact List.append_nil _)
      go_wp2
      go_meet
      rw [HO.out, HLL.out]
      exact HD.out
  case rest =>
  have HF := Lib.hid hcut
  clear hcut HD
  go_wp2
  go_ret
  exact ⟨_, rfl, HF.out.d, HF.out.own, HF.out.kq⟩
end Go.Proofs.YtdgbililgkhjfaaDoor.Rs
namespace Go.Proofs.YtdgbililgkhjfaaDoor.Rs
open Go.RowKit Go.Proofs.YtdgbililgkhjfaaDoor.Crc Go.Proofs.YtdgbililgkhjfaaDoor.Codec Go.Proofs.YtdgbililgkhjfaaDoor.Pk Go.Proofs.YtdgbililgkhjfaaDoor.CrcWalk Go.Proofs.YtdgbililgkhjfaaDoor.Frame
open Go.Proofs.YtdgbililgkhjfaaDoor.Lk (L lc rlc RL RPk nS mayL far_blk range_below load_pk_mid blk_range)
set_option linter.unusedVariables false
set_option linter.unusedSimpArgs false
/-- Both machines under way. -/
structure Dv (w : World) (gm gl dm dl : Nat) (m m' : M) (W : World) : Prop where
  p : Mb gm gl m W
  d : Db dm dl m' W
  bel : Below w.heap.size w W
  o1 : w.heap.size ≤ gm
  o2 : w.heap.size ≤ gl
  o3 : w.heap.size ≤ dm
  o4 : w.heap.size ≤ dl
  n1 : gm ≠ dm
  n2 : gm ≠ dl
  n3 : gl ≠ dm
  n4 : gl ≠ dl
theorem Dv.call {w W W' : World} {gm gl dm dl : Nat} {m m' : M} (h : Dv w gm gl dm dl m m' W) (hb : Below W.heap.size W W') : Dv w gm gl dm dl m m' W' :=
  ⟨h.p.call hb, h.d.call hb, h.bel.trans (hb.mono h.bel.size), h.o1, h.o2, h.o3, h.o4, h.n1, h.n2, h.n3, h.n4⟩
theorem Dv.prog {w W W' : World} {gm gl dm dl : Nat} {m m' n : M} (h : Dv w gm gl dm dl m m' W) (hp : Mb gm gl n W') (hk : Kq W.heap.size gm gl W W') : Dv w gm gl dm dl n m' W' :=
  ⟨hp, ⟨Kq.blk hk h.d.a h.d.a.lt h.n1.symm h.n3.symm, Kq.blk hk h.d.b h.d.b.lt h.n2.symm h.n4.symm, h.d.ne⟩, h.bel.trans (Kq.bel hk h.bel.size h.o1 h.o2), h.o1, h.o2, h.o3, h.o4, h.n1, h.n2, h.n3, h.n4⟩
theorem Dv.doc {w W W' : World} {gm gl dm dl : Nat} {m m' n : M} (h : Dv w gm gl dm dl m m' W) (hd : Db dm dl n W') (hk : Kq W.heap.size dm dl W W') : Dv w gm gl dm dl m n W' :=
  ⟨⟨Kq.blk hk h.p.a h.p.a.lt h.n1 h.n2, Kq.blk hk h.p.b h.p.b.lt h.n3 h.n4, h.p.ne⟩, hd, h.bel.trans (Kq.bel hk h.bel.size h.o3 h.o4), h.o1, h.o2, h.o3, h.o4, h.n1, h.n2, h.n3, h.n4⟩
theorem Dv.bl {w W : World} {gm gl dm dl : Nat} {m m' : M} (h : Dv w gm gl dm dl m m' W) : Below w.heap.size w W := h.bel
/-- The machine behind an act of any kind. -/
def M.step (m : M) (x : Ac) : M := if x.what % 3 = 0 then (m.on x.k).1 else if x.what % 3 = 1 then m.look x.cn else m.outs x.now
theorem M.step_wf {m : M} {x : Ac} {w : World} (h : m.wf) (hx : x.ok w) : (m.step x).wf := by
  unfold M.step
  split
  · exact M.on_wf h hx.k
  · split
    · exact M.look_wf h
    · exact M.outs_wf h hx.now
set_option maxRecDepth 100000 in
set_option maxHeartbeats 2000000 in
theorem one_0 (w : World) (gm gl dm dl : Nat) (m : M) (x : Ac) (W : World) (hd : Dv w gm gl dm dl m m W) (hm : m.wf) (hx : x.ok w) (hf : x.few) (hT : Tab w) (hr : x.what % 3 = 0) :
    Calls Tryd.prog 49 #[.pointer (some ⟨gm, 0, none⟩), .pointer (some ⟨dm, 0, none⟩), .agg x.cells] W fun r W' => r = .returned (.bool true) ∧ Dv w gm gl dm dl (m.on x.k).1 (m.on x.k).1 W' := by
  have hb0 : Blk (W.alloc (.cells x.cells AT)) W.heap.size x.cells AT := heap_alloc_new W _
  have hd0 := hd.call (bel_alloc W (.cells x.cells AT))
  have c0 : (W.alloc (.cells x.cells AT)).cell? ⟨W.heap.size, 0, none⟩ = some (.int .u8 x.what) := hb0.cell _ rfl
  have HR := Lib.hid (show (x.what : Int) % 3 = 0 by omega)
  have hwh := hx.what
  have hg1 := hd.p.a.lt
  have hg2 := hd.p.b.lt
  have hbx := hb0.lt
  have HP0 := Lib.hid (x.cells_pk (blk_range hb0))
  have HON := Lib.hid (fun V (d : Dv w gm gl dm dl m m V) => mon_any m x.k x.vi x.vp gm gl V d.p hm hx.k
    (fun U q => (hx.ins hf.1).below (d.bl.trans (Kq.bel q d.bl.size d.o1 d.o2))) (fun U q => (hx.prs hf.2).below (d.bl.trans (Kq.bel q d.bl.size d.o1 d.o2))) (fun U q => tab_below hT (d.bl.trans (Kq.bel q d.bl.size d.o1 d.o2))))
  have HDN := Lib.hid (fun V n (d : Dv w gm gl dm dl n m V) => don_any m x.k x.vi x.vp dm dl V d.d hm hx.k
    (fun U q => (hx.ins hf.1).below (d.bl.trans (Kq.bel q d.bl.size d.o3 d.o4))) (fun U q => (hx.prs hf.2).below (d.bl.trans (Kq.bel q d.bl.size d.o3 d.o4))))
  obtain ⟨A, hA⟩ : ∃ A, A = m.on x.k := ⟨_, rfl⟩
  obtain ⟨m', E⟩ := A
  rw [← hA] at HON HDN ⊢
  dsimp only at HON HDN ⊢
  clear hd hm hx hf hT hr hA
  go_enter Tryd.func49, Tryd.ntmps49
  go_upto_region 1 with fail
  change Code.wp _ _ _ _ (W.alloc (.cells x.cells AT))
  generalize W.alloc (.cells x.cells AT) = w1 at *
  generalize W.heap.size = bx at *
  go_cut [14] (fun v wx => v = .int .u8 0 ∧ w1 = wx)
  case first =>
    go_wp2
    go_meet
    refine ⟨?_, rfl⟩
    first | rfl | (congr 1; done) | (congr 1; have := HR.out; omega)
  case rest =>
  obtain ⟨rfl, rfl⟩ := hcut
  clear c0 HR
  have HP := HP0.out
  clear HP0
  go_wp2_with (first | (refine load_pk_mid (.tmp 18) bx 1 x.k x.vi x.vp HP rfl rfl rfl ?_))
  refine (HON.out _ hd0).mono ?_
  rintro r w2 ⟨rfl, hb, hk⟩
  have hd2 := hd0.prog hb hk
  have hbb2 : Blk w2 bx x.cells AT := Kq.blk hk hb0 hbx (by omega) (by omega)
  have HP2 := x.cells_pk (blk_range hbb2)
  clear hb hk hd0 HP hb0
  go_wp2_with (first | (refine load_pk_mid (.tmp 23) bx 1 x.k x.vi x.vp HP2 rfl rfl rfl ?_))
  refine (HDN.out _ _ hd2).mono ?_
  rintro r w3 ⟨rfl, hb, hk⟩
  have hd3 := hd2.doc hb hk
  have hEE : (E == E) = true := by simp
  clear hb hk hd2 HP2 hbb2
  go_wp2
  go_ret
  exact ⟨rfl, hd3⟩
set_option maxRecDepth 100000 in
set_option maxHeartbeats 2000000 in
theorem one_1 (w : World) (gm gl dm dl : Nat) (m : M) (x : Ac) (W : World) (hd : Dv w gm gl dm dl m m W) (hm : m.wf) (hx : x.ok w) (hr : x.what % 3 = 1) :
    Calls Tryd.prog 49 #[.pointer (some ⟨gm, 0, none⟩), .pointer (some ⟨dm, 0, none⟩), .agg x.cells] W fun r W' => r = .returned (.bool true) ∧ Dv w gm gl dm dl (m.look x.cn) (m.look x.cn) W' := by
  have hb0 : Blk (W.alloc (.cells x.cells AT)) W.heap.size x.cells AT := heap_alloc_new W _
  have hd0 := hd.call (bel_alloc W (.cells x.cells AT))
  have c0 : (W.alloc (.cells x.cells AT)).cell? ⟨W.heap.size, 0, none⟩ = some (.int .u8 x.what) := hb0.cell _ rfl
  have c13 : (W.alloc (.cells x.cells AT)).cell? ⟨W.heap.size, 13, none⟩ = some (.int .u64 x.cn) := hb0.cell _ rfl
  have HR := Lib.hid (show (x.what : Int) % 3 = 1 by omega)
  have hwh := hx.what
  have hg1 := hd.p.a.lt
  have hg2 := hd.p.b.lt
  have hbx := hb0.lt
  have HON := Lib.hid (fun V (d : Dv w gm gl dm dl m m V) => mlook_any m x.cn gm gl V d.p)
  have HDN := Lib.hid (fun V n (d : Dv w gm gl dm dl n m V) => dlook_any m x.cn dm dl V d.d)
  obtain ⟨m', hA⟩ : ∃ A, A = m.look x.cn := ⟨_, rfl⟩
  rw [← hA] at HON HDN ⊢
  clear hd hm hx hr hA
  go_enter Tryd.func49, Tryd.ntmps49
  go_upto_region 1 with fail
  change Code.wp _ _ _ _ (W.alloc (.cells x.cells AT))
  generalize W.alloc (.cells x.cells AT) = w1 at *
  generalize W.heap.size = bx at *
  go_cut [14] (fun v wx => v = .int .u8 1 ∧ w1 = wx)
  case first =>
    go_wp2
    go_meet
    refine ⟨?_, rfl⟩
    first | rfl | (congr 1; done) | (congr 1; have := HR.out; omega)
  case rest =>
  obtain ⟨rfl, rfl⟩ := hcut
  clear c0 HR
  go_wp2_with fail
  refine (HON.out _ hd0).mono ?_
  rintro r w2 ⟨rfl, hb, hk⟩
  have hd2 := hd0.prog hb (kq_kp' hk)
  have hbb2 : Blk w2 bx x.cells AT := (hk.block _ hbx (by omega)).trans hb0
  have c13' : w2.cell? ⟨bx, 13, none⟩ = some (.int .u64 x.cn) := hbb2.cell _ rfl
  clear hb hk hd0 hb0 c13 hbb2
  go_wp2_with fail
  refine (HDN.out _ _ hd2).mono ?_
  rintro r w3 ⟨rfl, hb, hk⟩
  have hd3 := hd2.doc hb (kq_kp' hk)
  have hEE : ((m'.st : Int) == (m'.st : Int)) = true := by simp
  clear hb hk hd2
  go_wp2
  go_ret
  exact ⟨rfl, hd3⟩
end Go.Proofs.YtdgbililgkhjfaaDoor.Rs
namespace Go.Proofs.YtdgbililgkhjfaaDoor.Rs
open Go.RowKit Go.Proofs.YtdgbililgkhjfaaDoor.Crc Go.Proofs.YtdgbililgkhjfaaDoor.Codec Go.Proofs.YtdgbililgkhjfaaDoor.Pk Go.Proofs.YtdgbililgkhjfaaDoor.CrcWalk Go.Proofs.YtdgbililgkhjfaaDoor.Frame
open Go.Proofs.YtdgbililgkhjfaaDoor.Lk (L lc rlc RL RPk nS mayL far_blk range_below load_pk_mid blk_range)
set_option linter.unusedVariables false
set_option linter.unusedSimpArgs false
theorem Pks.of_ownR {W : World} {B : Nat} {v : Value} {l : List K} (h : W.ownsRow B RPk 11 v l.length (pks l)) : Pks W v l := by
  rcases h.2 with ⟨rfl, h0⟩ | ⟨g, cap, cur, rfl, _, hg, _, _, _, ht⟩
  · exact ⟨none, 0, by rw [h0], fun i hi => absurd hi (by omega)⟩
  · refine ⟨some ⟨g, 0, none⟩, cap, rfl, fun i hi => ⟨g, rfl, (Array.getElem?_eq_some_iff.1 hg).1, fun j u hu => ?_⟩⟩
    have hj : j < 11 := (List.getElem?_eq_some_iff.1 hu).1
    have h1 : (pks l)[i * 11 + j]? = some u := (pks_at l i hi j hj).trans hu
    rw [← ht, List.getElem?_take_of_lt (by omega)] at h1
    rw [cell_of_row W g (i * 11 + j) cur RPk (0, 0) hg]
    rw [← Array.getElem?_toList]; exact h1
theorem exec_load_pkm {op : Oper} {ρ : Operand → Value} {w : World} (x : Operand) (b o : Nat) (k : K) (hc : w.rangeAt b o (pc k nS nS).toList) (ho : op.op = .load PT x) (hx : ρ x = .pointer (some ⟨b, o, none⟩)) :
    (execOp ρ op).run Tryd.prog w = .ok (.value (.agg (pc k nS nS))) w := by
  unfold execOp
  simp only [ho, hx, Instr.loadAt, Instr.sureAddr, Sem.run_bind, Sem.run_pure, Result.andThen_ok, run_loadVar_mid w b o PT (pc k nS nS).toList _ hc Tryd.underlying26 rfl (pc_info k nS nS)]
theorem exec_load_rpkm {op : Oper} {ρ : Operand → Value} {w : World} (x : Operand) (b o : Nat) (k : K) (hc : w.rangeAt b o (pc k nS nS).toList) (ho : op.op = .load RPk x) (hx : ρ x = .pointer (some ⟨b, o, none⟩)) :
    (execOp ρ op).run Tryd.prog w = .ok (.value (.agg (pc k nS nS))) w := by
  unfold execOp
  simp only [ho, hx, Instr.loadAt, Instr.sureAddr, Sem.run_bind, Sem.run_pure, Result.andThen_ok, run_loadVar_mid w b o RPk (pc k nS nS).toList _ hc Tryd.underlying34 rfl (rpc_info k nS nS)]
theorem ownq {W W' : World} {B p q sz n : Nat} {e : TypeId} {v : Value} {xs : List Value} (h : W.ownsRow B e sz v n xs) (hk : Kq W.heap.size p q W W') (hp : p < B) (hq : q < B) : W'.ownsRow B e sz v n xs := by
  refine ⟨h.1, ?_⟩
  rcases h.2 with h5 | ⟨b, cap, cur, e1, hb1, hb, hrest⟩
  · exact .inl h5
  · exact .inr ⟨b, cap, cur, e1, hb1, (hk.block b (Array.getElem?_eq_some_iff.1 hb).1 (by omega) (by omega)).trans hb, hrest⟩
theorem out_few (m : M) (now cn ow : Nat) : (m.out now cn ow).length ≤ 2 := by
  unfold M.out
  rw [List.length_append]
  split <;> split <;> simp
theorem out_ins (m : M) (now cn ow : Nat) : ∀ k ∈ m.out now cn ow, k.ins = [] ∧ k.prs = [] := by
  intro k hk
  unfold M.out at hk
  rw [List.mem_append] at hk
  rcases hk with hk | hk <;> split at hk <;> simp at hk <;> subst hk <;> exact ⟨rfl, rfl⟩
set_option maxRecDepth 100000 in
set_option maxHeartbeats 4000000 in
theorem one_2 (w : World) (gm gl dm dl : Nat) (m : M) (x : Ac) (W : World) (hd : Dv w gm gl dm dl m m W) (hm : m.wf) (hx : x.ok w) (hr : x.what % 3 = 2) :
    Calls Tryd.prog 49 #[.pointer (some ⟨gm, 0, none⟩), .pointer (some ⟨dm, 0, none⟩), .agg x.cells] W fun r W' => r = .returned (.bool true) ∧ Dv w gm gl dm dl (m.outs x.now) (m.outs x.now) W' := by
  have hb0 : Blk (W.alloc (.cells x.cells AT)) W.heap.size x.cells AT := heap_alloc_new W _
  have hd0 := hd.call (bel_alloc W (.cells x.cells AT))
  have c0 : (W.alloc (.cells x.cells AT)).cell? ⟨W.heap.size, 0, none⟩ = some (.int .u8 x.what) := hb0.cell _ rfl
  have c12 : (W.alloc (.cells x.cells AT)).cell? ⟨W.heap.size, 12, none⟩ = some (.int .u64 x.now) := hb0.cell _ rfl
  have c13 : (W.alloc (.cells x.cells AT)).cell? ⟨W.heap.size, 13, none⟩ = some (.int .u64 x.cn) := hb0.cell _ rfl
  have c14 : (W.alloc (.cells x.cells AT)).cell? ⟨W.heap.size, 14, none⟩ = some (.int .u64 x.ow) := hb0.cell _ rfl
  have HR := Lib.hid (show (x.what : Int) % 3 = 2 by omega)
  have hwh := hx.what
  have hg1 := hd.p.a.lt
  have hg2 := hd.p.b.lt
  have hbx := hb0.lt
  have hl2 := out_few m x.now x.cn x.ow
  have hli := out_ins m x.now x.cn x.ow
  have HON := Lib.hid (fun V (d : Dv w gm gl dm dl m m V) => out_any m x.now x.cn x.ow gm gl V d.p hm hx.now hx.cn hx.ow)
  have HDN := Lib.hid (fun V n (d : Dv w gm gl dm dl n m V) => dout_any m x.now x.cn x.ow dm dl V d.d hm hx.now)
  obtain ⟨m', hA⟩ : ∃ A, A = m.outs x.now := ⟨_, rfl⟩
  obtain ⟨ks, hks⟩ : ∃ A, A = m.out x.now x.cn x.ow := ⟨_, rfl⟩
  rw [← hks] at hl2 hli
  rw [← hA, ← hks] at HON HDN
  rw [← hA]
  have HLI := Lib.hid hli
  clear hd hm hx hr hA hks hli
  go_enter Tryd.func49, Tryd.ntmps49
  go_upto_region 1 with fail
  change Code.wp _ _ _ _ (W.alloc (.cells x.cells AT))
  generalize W.alloc (.cells x.cells AT) = w1 at *
  generalize W.heap.size = bx at *
  go_cut [14] (fun v wx => v = .int .u8 2 ∧ w1 = wx)
  case first =>
    go_wp2
    go_meet
    refine ⟨?_, rfl⟩
    first | rfl | (congr 1; done) | (congr 1; have := HR.out; omega)
  case rest =>
  obtain ⟨rfl, rfl⟩ := hcut
  clear c0 HR
  go_wp2_with fail
  refine (HON.out _ hd0).mono ?_
  rintro r w2 ⟨v1, rfl, hb, hown, hk⟩
  have hdm := hd0.d.a.lt
  have hdl := hd0.d.b.lt
  have hd2 := hd0.prog hb hk
  have hp2 := Pks.of_own hown
  have hbb2 : Blk w2 bx x.cells AT := Kq.blk hk hb0 hbx (by omega) (by omega)
  have c12' : w2.cell? ⟨bx, 12, none⟩ = some (.int .u64 x.now) := hbb2.cell _ rfl
  have c13' : w2.cell? ⟨bx, 13, none⟩ = some (.int .u64 x.cn) := hbb2.cell _ rfl
  have c14' : w2.cell? ⟨bx, 14, none⟩ = some (.int .u64 x.ow) := hbb2.cell _ rfl
  clear hd0 hb0 c12 c13 c14 hbb2
  go_wp2_with fail
  refine (HDN.out _ _ hd2).mono ?_
  rintro r w3 ⟨v2, rfl, hb', hown', hk'⟩
  have hd3 := hd2.doc hb' hk'
  have hq3 := Pks.of_ownR hown'
  have hown3 := ownq hown hk' (by omega) (by omega)
  obtain ⟨b1, e1, rfl, hc1⟩ := Pks.of_own hown3
  obtain ⟨b2, e2, rfl, hc2⟩ := hq3
  have HC1 := Lib.hid hc1
  have HC2 := Lib.hid hc2
  have t1 : ((ks.length : Int) != (ks.length : Int)) = false := by simp
  clear hb hb' hk hk' hown hown' hown3 hd2 hp2 c12' c13' c14' hc1 hc2 HON HDN
  go_wp2
  go_loopw [11] (fun i wr => ∃ j : Nat, j ≤ ks.length ∧ i = .int .i64 j ∧ Dv w gm gl dm dl m' m' wr ∧ Below w3.heap.size w3 wr) (fun i _ => ks.length - (intOf i).toNat)
  case atStart => exact ⟨0, Nat.zero_le _, rfl, hd3, Below.refl _ _⟩
  case round =>
    obtain ⟨j, hj, rfl, hdr, hbr⟩ := hrel
    by_cases hlt : j < ks.length
    · obtain ⟨ga, rfl, ha, hra⟩ := HC1.out j hlt
      obtain ⟨gb, rfl, hb, hrb⟩ := HC2.out j hlt
      have hir := HLI.out ks[j] (List.getElem_mem _)
      generalize ks[j] = k at *
      have HSM := Lib.hid (fun V => rsame_any k k nS nS nS nS V (by rw [hir.1]; exact ins_nil _) (by rw [hir.2]; exact prs_nil _) (by rw [hir.1]; exact ins_nil _) (by rw [hir.2]; exact prs_nil _))
      rw [decide_eq_true rfl] at HSM
      have HRA := Lib.hid (fun V (d : Below wr.heap.size wr V) => range_below hra ha (hbr.trans (d.mono hbr.size)))
      have HRB := Lib.hid (fun V (d : Below wr.heap.size wr V) => range_below hrb hb (hbr.trans (d.mono hbr.size)))
      have HDR := Lib.hid hdr
      have HBR := Lib.hid hbr
      clear hir hra hrb hdr hbr hd3
      go_wp2_with fail
      refine Draw.wp_region_frame (fun W => Below wr.heap.size wr W) (fun W W' => Below W.heap.size W W') (fun i W vv => match i with
          | 0 => vv = .slice (some ⟨ga, 0, none⟩) ks.length e1
          | 1 => vv = .int .i64 j
          | 2 => vv = .pointer (some ⟨ga, j * 11, none⟩)
          | 3 => vv = .agg (pc k nS nS)
          | 4 => vv = .slice (some ⟨gb, 0, none⟩) ks.length e2
          | 5 => vv = .int .i64 j
          | 6 => vv = .pointer (some ⟨gb, j * 11, none⟩)
          | 7 => vv = .agg (pc k nS nS)
          | 8 => vv = .bool true
          | _ => vv = .bool false) (by kernel_rfl) (by kernel_rfl) (by decide) rfl ?_ (Below.refl _ wr).drew ?_ [66, 67, 68, 69, 70, 71, 72, 73, 74, 75] (by rfl) ?_
      · intro i W W' vv he hf
        exact hf
      · refine ⟨?_, ?_, ?_, ?_, ?_, ?_, ?_, ?_, ?_, ?_, trivial⟩
        all_goals intro ρ W hJ hc hf hKn
        · refine Draw.Goes.plain rfl ?_
          exact Draw.Runs.value (w' := W) (v := ρ (.tmp 9)) rfl ⟨hJ, Below.refl _ _, hKn.1.2 9 rfl⟩
        · refine Draw.Goes.plain rfl ?_
          exact Draw.Runs.value (w' := W) (v := ρ (.tmp 11)) rfl ⟨hJ, Below.refl _ _, hKn.1.2 11 rfl⟩
        · refine Draw.Goes.plain rfl ?_
          have h0 : ρ (.tmp 66) = .slice (some ⟨ga, 0, none⟩) ks.length e1 := hKn.1.get 0 66 rfl rfl
          have h1 : ρ (.tmp 67) = .int .i64 j := hKn.1.get 1 67 rfl rfl
          refine Draw.Runs.value (w' := W) (v := .pointer (some ⟨ga, j * 11, none⟩)) ?_ ⟨hJ, Below.refl _ _, rfl⟩
          simp only [execOp]; go_simp
        · refine Draw.Goes.plain rfl ?_
          have h0 : ρ (.tmp 68) = .pointer (some ⟨ga, j * 11, none⟩) := hKn.1.get 2 68 rfl rfl
          exact Draw.Runs.value (w' := W) (v := .agg (pc k nS nS)) (exec_load_pkm _ ga _ k (HRA.out W hJ) rfl h0) ⟨hJ, Below.refl _ _, rfl⟩
        · refine Draw.Goes.plain rfl ?_
          exact Draw.Runs.value (w' := W) (v := ρ (.tmp 10)) rfl ⟨hJ, Below.refl _ _, hKn.1.2 10 rfl⟩
        · refine Draw.Goes.plain rfl ?_
          exact Draw.Runs.value (w' := W) (v := ρ (.tmp 11)) rfl ⟨hJ, Below.refl _ _, hKn.1.2 11 rfl⟩
        · refine Draw.Goes.plain rfl ?_
          have h0 : ρ (.tmp 70) = .slice (some ⟨gb, 0, none⟩) ks.length e2 := hKn.1.get 4 70 rfl rfl
          have h1 : ρ (.tmp 71) = .int .i64 j := hKn.1.get 5 71 rfl rfl
          refine Draw.Runs.value (w' := W) (v := .pointer (some ⟨gb, j * 11, none⟩)) ?_ ⟨hJ, Below.refl _ _, rfl⟩
          simp only [execOp]; go_simp
        · refine Draw.Goes.plain rfl ?_
          have h0 : ρ (.tmp 72) = .pointer (some ⟨gb, j * 11, none⟩) := hKn.1.get 6 72 rfl rfl
          exact Draw.Runs.value (w' := W) (v := .agg (pc k nS nS)) (exec_load_rpkm _ gb _ k (HRB.out W hJ) rfl h0) ⟨hJ, Below.refl _ _, rfl⟩
        · refine Draw.Goes.plain rfl ?_
          have h0 : ρ (.tmp 69) = .agg (pc k nS nS) := hKn.1.get 3 69 rfl rfl
          have h1 : ρ (.tmp 73) = .agg (pc k nS nS) := hKn.1.get 7 73 rfl rfl
          refine Draw.Runs.enter (f := 21) (args := #[.agg (pc k nS nS), .agg (pc k nS nS)]) ?_ (((HSM.out W)).mono fun e W' ⟨he, hb⟩ => ⟨_, he, (hJ.trans (Below.mono hb hJ.size)), hb, rfl⟩)
          simp only [execOp]; go_simp
        · refine Draw.Goes.plain rfl ?_
          have h0 : ρ (.tmp 74) = .bool true := hKn.1.get 8 74 rfl rfl
          refine Draw.Runs.value (w' := W) (v := .bool false) ?_ ⟨hJ, Below.refl _ _, rfl⟩
          simp only [execOp]; go_simp
      · intro u W hJ hf
        have r75 : u 75 = .bool false := hf 9 _ 75 rfl rfl
        simp only [List.foldl_cons, List.foldl_nil, List.setIfInBounds_toArray, List.set_cons_succ, List.set_cons_zero, r75]
        have HD := Lib.hid (HDR.out.call hJ)
        have HB := Lib.hid (HBR.out.trans (hJ.mono HBR.out.size))
        clear hJ hf
        go_wp2
        go_roundw
        case rel => exact ⟨j + 1, by omega, by go_num, HD.out, HB.out⟩
        case measure => simp [intOf]; omega
    · obtain rfl : j = ks.length := by omega
      have HD := Lib.hid hdr
      clear hdr hd3 hbr
      go_wp2
      go_ret
      exact ⟨rfl, HD.out⟩
/-- What 'one' answers. -/
theorem one_any (w : World) (gm gl dm dl : Nat) (m : M) (x : Ac) (W : World) (hd : Dv w gm gl dm dl m m W) (hm : m.wf) (hx : x.ok w) (hf : x.few) (hT : Tab w) :
    Calls Tryd.prog 49 #[.pointer (some ⟨gm, 0, none⟩), .pointer (some ⟨dm, 0, none⟩), .agg x.cells] W fun r W' => r = .returned (.bool true) ∧ Dv w gm gl dm dl (m.step x) (m.step x) W' := by
  have h3 : x.what % 3 < 3 := Nat.mod_lt _ (by decide)
  unfold M.step
  match hr : x.what % 3, h3 with
  | 0, _ => exact one_0 w gm gl dm dl m x W hd hm hx hf hT hr
  | 1, _ => exact one_1 w gm gl dm dl m x W hd hm hx hr
  | 2, _ => exact one_2 w gm gl dm dl m x W hd hm hx hr
end Go.Proofs.YtdgbililgkhjfaaDoor.Rs
namespace Go.Proofs.YtdgbililgkhjfaaDoor.Rs
open Go.RowKit Go.Proofs.YtdgbililgkhjfaaDoor.Crc Go.Proofs.YtdgbililgkhjfaaDoor.Codec Go.Proofs.YtdgbililgkhjfaaDoor.Pk Go.Proofs.YtdgbililgkhjfaaDoor.CrcWalk Go.Proofs.YtdgbililgkhjfaaDoor.Frame
open Go.Proofs.YtdgbililgkhjfaaDoor.Lk (L lc rlc RL RPk nS mayL far_blk range_below epoch_any count_any met_any)
set_option linter.unusedVariables false
set_option linter.unusedSimpArgs false
abbrev WT := 61
theorem exec_load_ract {op : Oper} {ρ : Operand → Value} {w : World} (x : Operand) (b o : Nat) (y : Ac) (hc : w.rangeAt b o y.cells.toList) (ho : op.op = .load AT x) (hx : ρ x = .pointer (some ⟨b, o, none⟩)) :
    (execOp ρ op).run Tryd.prog w = .ok (.value (.agg y.cells)) w := by
  unfold execOp
  simp only [ho, hx, Instr.loadAt, Instr.sureAddr, Sem.run_bind, Sem.run_pure, Result.andThen_ok, run_loadVar_mid w b o AT y.cells.toList _ hc Tryd.underlying80 rfl (ract_info y)]
set_option maxRecDepth 100000 in
set_option maxHeartbeats 16000000 in
/-- P27.1 to P27.3: the law ResumePlays. -/
theorem plays_law (a0 a1 : Int) (e : Nat) (v : Value) (xs : List Ac) (w : World) (he : e < 18446744073709551616) (h0 : -9223372036854775808 ≤ a0 ∧ a0 ≤ 9223372036854775807) (h1 : -9223372036854775808 ≤ a1 ∧ a1 ≤ 9223372036854775807) (hx : Acts w v xs) (hT : Tab w) :
    Calls Tryd.prog 13 #[.agg #[.int .i64 a0, .int .i64 a1], .int .u64 e, v] w fun r w' => r = .returned (.bool true) ∧ Below w.heap.size w w' := by
  obtain ⟨p, hp⟩ : ∃ p : Nat, (p : Int) = min (max a0 0) 9 := ⟨(min (max a0 0) 9).toNat, by omega⟩
  have hp9 : p ≤ 9 := by omega
  have HA := Lib.hid (fun W => awake_any W)
  have HP := Lib.hid hp
  have HTT := Lib.hid hT
  have hb0 : Blk (w.alloc (.cells #[.int .i64 a0, .int .i64 a1] WT)) w.heap.size #[.int .i64 a0, .int .i64 a1] WT := heap_alloc_new w _
  have hB0 := bel_alloc w (.cells #[.int .i64 a0, .int .i64 a1] WT)
  have c0 : (w.alloc (.cells #[.int .i64 a0, .int .i64 a1] WT)).cell? ⟨w.heap.size, 0, none⟩ = some (.int .i64 a0) := hb0.cell _ rfl
  have HX := Lib.hid hx
  clear hT hp hx
  go_enter Tryd.func13, Tryd.ntmps13
  go_upto_region 1 with fail
  generalize w.alloc (.cells #[.int .i64 a0, .int .i64 a1] WT) = w1 at *
  go_cut [7] (fun z wx => z = .int .u8 p ∧ w1 = wx)
  case first =>
    go_wp2
    all_goals
      go_meet
      refine ⟨?_, rfl⟩
      have := HP.out
      first | (exfalso; omega) | (congr 1; omega) | (congr 1; rw [IntKind.wrap_u8]; omega)
  case rest =>
  obtain ⟨rfl, rfl⟩ := hcut
  clear c0
  have hlt1 := hb0.lt
  have c1 : w1.cell? ⟨w.heap.size, 1, none⟩ = some (.int .i64 a1) := hb0.cell _ rfl
  by_cases hm : mayL p e a1
  case neg =>
    have HN := Lib.hid (fun W => mnew_no p e a1 W hm)
    have HM := Lib.hid (fun W => dnew_no p e a1 W hm)
    clear hm hb0 hlt1
    go_wp2_with fail
    refine (HN.out _).mono ?_
    rintro r w' ⟨rfl, rfl⟩
    go_wp2_with fail
    refine (HM.out _).mono ?_
    rintro r w' ⟨rfl, rfl⟩
    go_wp2_with fail
    refine (HA.out _).mono ?_
    rintro r w2 ⟨rfl, hb⟩
    have hB2 := hB0.trans (hb.mono hB0.size)
    clear hb hB0
    go_wp2
    go_ret
    exact ⟨rfl, hB2⟩
  case pos =>
  obtain ⟨hm1, hm2, hm3, hm4⟩ := id hm
  obtain ⟨n, rfl⟩ : ∃ n : Nat, a1 = n := ⟨a1.toNat, by omega⟩
  have HN := Lib.hid (fun W => mnew_yes p e n W hm he)
  have HM := Lib.hid (fun W => dnew_yes p e n W hm he)
  have hwf : (M.make p e n).wf := M.make_wf (by omega) he (by omega) (by omega)
  have HWF := Lib.hid hwf
  clear hm hm1 hm2 hm3 hm4 hwf
  go_wp2_with fail
  refine (HN.out _).mono ?_
  rintro r w2 ⟨gm, gl, rfl, hbg, hb, o1, o2⟩
  have hB2 := hB0.trans (hb.mono hB0.size)
  have hw2 : Blk w2 w.heap.size #[.int .i64 a0, .int .i64 n] WT := (hb.block _ hlt1).trans hb0
  have c1' : w2.cell? ⟨w.heap.size, 1, none⟩ = some (.int .i64 n) := hw2.cell _ rfl
  have hgs : w.heap.size < w1.heap.size := hlt1
  clear hb hb0 c1
  go_wp2_with fail
  refine (HM.out _).mono ?_
  rintro r w3 ⟨dm, dl, rfl, hbd, hb, o3, o4⟩
  have hd3 : Dv w gm gl dm dl (M.make p e n) (M.make p e n) w3 := ⟨hbg.call hb, hbd, hB2.trans (hb.mono hB2.size), by omega, by omega, by have := hB2.size; omega, by have := hB2.size; omega, by have := hbg.a.lt; omega, by have := hbg.a.lt; omega, by have := hbg.b.lt; omega, by have := hbg.b.lt; omega⟩
  obtain ⟨b, c, rfl, hlen, hcell⟩ := id HX.out
  have HFW := Lib.hid (fewr_any _ xs w3 (HX.out.below hd3.bel))
  have HCL := Lib.hid hcell
  unfold maxLen at hlen
  clear hcell hb hbg hbd hB2 hw2 c1' hB0 HN HM o1 o2 o3 o4 hgs hlt1
  go_wp2_with fail
  refine HFW.out.mono ?_
  rintro r w' ⟨rfl, rfl⟩
  by_cases hf : xs.length ≤ 80 ∧ ∀ x ∈ xs, x.few
  case neg =>
    rw [decide_eq_false hf]
    have hB2 := hd3.bel
    clear hf hd3
    go_wp2_with fail
    refine (HA.out _).mono ?_
    rintro r w4 ⟨rfl, hb⟩
    have hB3 := hB2.trans (hb.mono hB2.size)
    clear hb hB2
    go_wp2
    go_ret
    exact ⟨rfl, hB3⟩
  case pos =>
  rw [decide_eq_true hf]
  have hl80 := hf.1
  have HFE := Lib.hid hf.2
  clear hf HFW
  go_wp2_with fail
  go_loopw [10] (fun i wr => ∃ (j : Nat) (m : M), j ≤ xs.length ∧ i = .int .i64 j ∧ m.wf ∧ Dv w gm gl dm dl m m wr) (fun i _ => xs.length - (intOf i).toNat)
  case atStart => exact ⟨0, _, Nat.zero_le _, rfl, HWF.out, hd3⟩
  case round =>
    obtain ⟨j, m, hj, rfl, hm, hd⟩ := hrel
    by_cases hlt : j < xs.length
    · obtain ⟨ga, oa, rfl, ha, hr, hok⟩ := HCL.out j hlt
      have hfe := HFE.out xs[j] (List.getElem_mem _)
      generalize xs[j] = x at *
      have hm' := M.step_wf hm hok
      have HON := Lib.hid (fun V (d : Dv w gm gl dm dl m m V) => one_any w gm gl dm dl m x V d hm hok hfe HTT.out)
      obtain ⟨m', hme⟩ : ∃ m', m' = m.step x := ⟨_, rfl⟩
      rw [← hme] at HON hm'
      have HM' := Lib.hid hm'
      have HR := Lib.hid (fun V (d : Dv w gm gl dm dl m m V) => range_below hr ha d.bl)
      have HEP := Lib.hid (fun V (d : Dv w gm gl dm dl m' m' V) => epoch_any m'.l gl V d.p.b hm'.l)
      have HCO := Lib.hid (fun V (d : Dv w gm gl dm dl m' m' V) => count_any m'.l gl V d.p.b hm'.l)
      have HME := Lib.hid (fun V (d : Dv w gm gl dm dl m' m' V) => met_any m'.l gl V d.p.b hm'.l)
      have HST := Lib.hid (fun V (d : Dv w gm gl dm dl m' m' V) => mstate_any m' gm gl V d.p)
      have HGO := Lib.hid (fun V (d : Dv w gm gl dm dl m' m' V) => mgoal_any m' gm gl V d.p)
      have HLK := Lib.hid (fun V (d : Dv w gm gl dm dl m' m' V) => mlink_any m' gm gl V d.p)
      have HD := Lib.hid hd
      have e1 : ((m'.l.epoch : Int) != (m'.l.epoch : Int)) = false := by simp
      have e2 : ((m'.l.count : Int) != (m'.l.count : Int)) = false := by simp
      have e3 : ((m'.st : Int) != (m'.st : Int)) = false := by simp
      have e5 : ((m'.goal : Int) != (m'.goal : Int)) = false := by simp
      have e4 : (m'.l.met != m'.l.met) = false := by simp
      clear hm hd hok hfe hm' hme hr
      go_wp2_with fail
      refine Draw.wp_region_prefix 6 (Dv w gm gl dm dl m m) (fun W W' => Below W.heap.size W W') (fun i W vv => match i with
          | 0 => vv = .pointer (some ⟨gm, 0, none⟩)
          | 1 => vv = .pointer (some ⟨dm, 0, none⟩)
          | 2 => vv = (.slice (some ⟨ga, oa, none⟩) xs.length c)
          | 3 => vv = .int .i64 j
          | 4 => vv = .pointer (some ⟨ga, oa + j * 15, none⟩)
          | _ => vv = .agg x.cells) (by kernel_rfl) (by kernel_rfl) (by decide) rfl (by decide) (by decide) (by decide) ?_ (HD.out.call (Below.refl _ _).drew) ?_ [45, 46, 47, 48, 49, 50] (by rfl) 59 (by rfl) ?_
      · intro i W W' vv he hf
        exact hf
      · refine ⟨?_, ?_, ?_, ?_, ?_, ?_, trivial⟩
        all_goals intro ρ W hJ hc hf hKn
        · refine Draw.Goes.plain rfl ?_
          exact Draw.Runs.value (w' := W) (v := ρ (.tmp 8)) rfl ⟨hJ, Below.refl _ _, hKn.1.2 8 rfl⟩
        · refine Draw.Goes.plain rfl ?_
          exact Draw.Runs.value (w' := W) (v := ρ (.tmp 9)) rfl ⟨hJ, Below.refl _ _, hKn.1.2 9 rfl⟩
        · refine Draw.Goes.plain rfl ?_
          exact Draw.Runs.value (w' := W) (v := ρ (.tmp 2)) rfl ⟨hJ, Below.refl _ _, hKn.1.2 2 rfl⟩
        · refine Draw.Goes.plain rfl ?_
          exact Draw.Runs.value (w' := W) (v := ρ (.tmp 10)) rfl ⟨hJ, Below.refl _ _, hKn.1.2 10 rfl⟩
        · refine Draw.Goes.plain rfl ?_
          have h0 : ρ (.tmp 47) = (.slice (some ⟨ga, oa, none⟩) xs.length c) := hKn.1.get 2 47 rfl rfl
          have h1 : ρ (.tmp 48) = .int .i64 j := hKn.1.get 3 48 rfl rfl
          refine Draw.Runs.value (w' := W) (v := .pointer (some ⟨ga, oa + j * 15, none⟩)) ?_ ⟨hJ, Below.refl _ _, rfl⟩
          simp only [execOp]; go_simp
        · refine Draw.Goes.plain rfl ?_
          have h0 : ρ (.tmp 49) = .pointer (some ⟨ga, oa + j * 15, none⟩) := hKn.1.get 4 49 rfl rfl
          exact Draw.Runs.value (w' := W) (v := .agg x.cells) (exec_load_ract _ ga _ x (HR.out W hJ) rfl h0) ⟨hJ, Below.refl _ _, rfl⟩
      · intro u W hJ hf
        have r45 : u 45 = .pointer (some ⟨gm, 0, none⟩) := hf 0 _ 45 (by decide) rfl rfl
        have r46 : u 46 = .pointer (some ⟨dm, 0, none⟩) := hf 1 _ 46 (by decide) rfl rfl
        have r50 : u 50 = .agg x.cells := hf 5 _ 50 (by decide) rfl rfl
        simp only [List.foldl_cons, List.foldl_nil, List.setIfInBounds_toArray, List.set_cons_succ, List.set_cons_zero, r45, r46, r50]
        have hJ1 := hJ
        clear hJ hf
        refine Draw.wpAny_one (i := 6) (by kernel_rfl) rfl rfl ?_
        refine runs_at (some 51) rfl (R := fun V z => z = .bool true ∧ Dv w gm gl dm dl m' m' V) (Draw.Runs.enter (f := 49) (args := #[.pointer (some ⟨gm, 0, none⟩), .pointer (some ⟨dm, 0, none⟩), .agg x.cells]) (by simp only [execOp]; go_simp) ((HON.out W hJ1).mono fun e W' ⟨he, hb⟩ => ⟨_, he, rfl, hb⟩)) ?_
        rintro W2 z ⟨rfl, hd2⟩
        refine Draw.wpAny_one (i := 7) (by kernel_rfl) rfl rfl ?_
        refine wp_value_at (some 52) rfl (v := .bool false) (w' := W2) (by simp only [execOp]; go_simp) ?_
        refine Draw.wpAny_one (i := 8) (by kernel_rfl) rfl rfl ?_
        refine wp_value_at (some 53) rfl (v := .bool false) (w' := W2) (by simp only [execOp]; go_simp) ?_
        have hD2 := Lib.hid hd2
        clear hJ1 hd2
        simp only [Act.put, List.setIfInBounds_toArray, List.set_cons_succ, List.set_cons_zero]
        refine Draw.wpAny_last 9 (Dv w gm gl dm dl m' m') (fun W W' => Below W.heap.size W W') (fun i W vv => match i with
            | 9 => vv = .pointer (some ⟨gm, 0, none⟩)
            | 10 => vv = .int .i64 m'.st
            | 11 => vv = .pointer (some ⟨dm, 0, none⟩)
            | 12 => vv = .pointer (some ⟨dm, 0, none⟩)
            | 13 => vv = .pointer (some ⟨dm, 1, none⟩)
            | 14 => vv = .int .i64 m'.st
            | 15 => vv = .bool false
            | 16 => vv = .bool false
            | 17 => vv = .bool false
            | 18 => vv = .pointer (some ⟨gm, 0, none⟩)
            | 19 => vv = .int .u64 m'.goal
            | 20 => vv = .pointer (some ⟨dm, 0, none⟩)
            | 21 => vv = .pointer (some ⟨dm, 0, none⟩)
            | 22 => vv = .pointer (some ⟨dm, 2, none⟩)
            | 23 => vv = .int .u64 m'.goal
            | 24 => vv = .bool false
            | 25 => vv = .bool false
            | 26 => vv = .bool false
            | 27 => vv = .pointer (some ⟨gm, 0, none⟩)
            | 28 => vv = .pointer (some ⟨gl, 0, none⟩)
            | 29 => vv = .int .u64 m'.l.epoch
            | 30 => vv = .pointer (some ⟨dm, 0, none⟩)
            | 31 => vv = .pointer (some ⟨dm, 0, none⟩)
            | 32 => vv = .pointer (some ⟨dm, 0, none⟩)
            | 33 => vv = .pointer (some ⟨dl, 0, none⟩)
            | 34 => vv = .pointer (some ⟨dl, 0, none⟩)
            | 35 => vv = .pointer (some ⟨dl, 3, none⟩)
            | 36 => vv = .int .u64 m'.l.epoch
            | 37 => vv = .bool false
            | 38 => vv = .bool false
            | 39 => vv = .bool false
            | 40 => vv = .pointer (some ⟨gm, 0, none⟩)
            | 41 => vv = .pointer (some ⟨gl, 0, none⟩)
            | 42 => vv = .bool m'.l.met
            | 43 => vv = .pointer (some ⟨dm, 0, none⟩)
            | 44 => vv = .pointer (some ⟨dm, 0, none⟩)
            | 45 => vv = .pointer (some ⟨dm, 0, none⟩)
            | 46 => vv = .pointer (some ⟨dl, 0, none⟩)
            | 47 => vv = .pointer (some ⟨dl, 0, none⟩)
            | 48 => vv = .pointer (some ⟨dl, 6, none⟩)
            | 49 => vv = .bool m'.l.met
            | 50 => vv = .bool false
            | 51 => vv = .bool false
            | 52 => vv = .bool false
            | 53 => vv = .pointer (some ⟨gm, 0, none⟩)
            | 54 => vv = .pointer (some ⟨gl, 0, none⟩)
            | 55 => vv = .int .u64 m'.l.count
            | 56 => vv = .pointer (some ⟨dm, 0, none⟩)
            | 57 => vv = .pointer (some ⟨dm, 0, none⟩)
            | 58 => vv = .pointer (some ⟨dm, 0, none⟩)
            | 59 => vv = .pointer (some ⟨dl, 0, none⟩)
            | 60 => vv = .pointer (some ⟨dl, 0, none⟩)
            | 61 => vv = .pointer (some ⟨dl, 4, none⟩)
            | 62 => vv = .int .u64 m'.l.count
            | 63 => vv = .bool false
            | _ => vv = .bool false) (by kernel_rfl) (by decide) rfl (by decide) ?_ hD2.out [54, 55, 56, 57, 58, 59, 60, 61, 62, 63, 64, 65, 66, 67, 68, 69, 70, 71, 72, 73, 74, 75, 76, 77, 78, 79, 80, 81, 82, 83, 84, 85, 86, 87, 88, 89, 90, 91, 92, 93, 94, 95, 96, 97, 98, 99, 100, 101, 102, 103, 104, 105, 106, 107, 108, 109] (by rfl) ?_ 56 (by rfl) ?_
        · intro i W W' vv he hf
          exact hf
        · refine ⟨?_, ?_, ?_, ?_, ?_, ?_, ?_, ?_, ?_, ?_, ?_, ?_, ?_, ?_, ?_, ?_, ?_, ?_, ?_, ?_, ?_, ?_, ?_, ?_, ?_, ?_, ?_, ?_, ?_, ?_, ?_, ?_, ?_, ?_, ?_, ?_, ?_, ?_, ?_, ?_, ?_, ?_, ?_, ?_, ?_, ?_, ?_, ?_, ?_, ?_, ?_, ?_, ?_, ?_, ?_, ?_, trivial⟩
          all_goals intro ρ W hJ hc hf hKn
          · refine Draw.Goes.yes 8 false 53 rfl rfl (hKn.2 53 rfl) ?_
            exact Draw.Runs.value (w' := W) (v := ρ (.tmp 8)) rfl ⟨hJ, Below.refl _ _, hKn.2 8 rfl⟩
          · refine Draw.Goes.yes 8 false 53 rfl rfl (hKn.2 53 rfl) ?_
            have h0 : ρ (.tmp 54) = .pointer (some ⟨gm, 0, none⟩) := hKn.get 9 54 rfl rfl rfl
            refine Draw.Runs.enter (f := 47) (args := #[.pointer (some ⟨gm, 0, none⟩)]) ?_ ((HST.out W hJ).mono fun e W' ⟨he, hb⟩ => ⟨_, he, by subst hb; exact hJ, by subst hb; exact Below.refl _ _, rfl⟩)
            simp only [execOp]; go_simp
          · refine Draw.Goes.yes 8 false 53 rfl rfl (hKn.2 53 rfl) ?_
            exact Draw.Runs.value (w' := W) (v := ρ (.tmp 9)) rfl ⟨hJ, Below.refl _ _, hKn.2 9 rfl⟩
          · refine Draw.Goes.yes 8 false 53 rfl rfl (hKn.2 53 rfl) ?_
            have h0 : ρ (.tmp 56) = .pointer (some ⟨dm, 0, none⟩) := hKn.get 11 56 rfl rfl rfl
            refine Draw.Runs.value (w' := W) (v := .pointer (some ⟨dm, 0, none⟩)) ?_ ⟨hJ, Below.refl _ _, rfl⟩
            simp only [execOp]; go_simp
          · refine Draw.Goes.yes 8 false 53 rfl rfl (hKn.2 53 rfl) ?_
            have h0 : ρ (.tmp 57) = .pointer (some ⟨dm, 0, none⟩) := hKn.get 12 57 rfl rfl rfl
            refine Draw.Runs.value (w' := W) (v := .pointer (some ⟨dm, 1, none⟩)) ?_ ⟨hJ, Below.refl _ _, rfl⟩
            simp only [execOp]; go_simp
          · refine Draw.Goes.yes 8 false 53 rfl rfl (hKn.2 53 rfl) ?_
            have h0 : ρ (.tmp 58) = .pointer (some ⟨dm, 1, none⟩) := hKn.get 13 58 rfl rfl rfl
            have c : W.cell? ⟨dm, 1, none⟩ = some (.int .i64 m'.st) := hJ.d.a.cell _ rfl
            refine Draw.Runs.value (w' := W) (v := .int .i64 m'.st) ?_ ⟨hJ, Below.refl _ _, rfl⟩
            simp only [execOp]; go_simp
          · refine Draw.Goes.yes 8 false 53 rfl rfl (hKn.2 53 rfl) ?_
            have h0 : ρ (.tmp 55) = .int .i64 m'.st := hKn.get 10 55 rfl rfl rfl
            have h1 : ρ (.tmp 59) = .int .i64 m'.st := hKn.get 14 59 rfl rfl rfl
            refine Draw.Runs.value (w' := W) (v := .bool false) ?_ ⟨hJ, Below.refl _ _, rfl⟩
            simp only [execOp]; go_simp
          · refine Draw.Goes.plain rfl ?_
            have h0 : ρ (.tmp 53) = .bool false := hKn.2 53 rfl
            have h1 : ρ (.tmp 60) = .bool false := hKn.get 15 60 rfl rfl rfl
            refine Draw.Runs.value (w' := W) (v := .bool false) ?_ ⟨hJ, Below.refl _ _, rfl⟩
            simp only [execOp]; go_simp
          · refine Draw.Goes.plain rfl ?_
            exact Draw.Runs.value (w' := W) (v := ρ (.tmp 61)) rfl ⟨hJ, Below.refl _ _, hKn.get 16 61 rfl rfl rfl⟩
          · refine Draw.Goes.yes 17 false 62 rfl rfl (hKn.get 17 62 rfl rfl rfl) ?_
            exact Draw.Runs.value (w' := W) (v := ρ (.tmp 8)) rfl ⟨hJ, Below.refl _ _, hKn.2 8 rfl⟩
          · refine Draw.Goes.yes 17 false 62 rfl rfl (hKn.get 17 62 rfl rfl rfl) ?_
            have h0 : ρ (.tmp 63) = .pointer (some ⟨gm, 0, none⟩) := hKn.get 18 63 rfl rfl rfl
            refine Draw.Runs.enter (f := 50) (args := #[.pointer (some ⟨gm, 0, none⟩)]) ?_ ((HGO.out W hJ).mono fun e W' ⟨he, hb⟩ => ⟨_, he, by subst hb; exact hJ, by subst hb; exact Below.refl _ _, rfl⟩)
            simp only [execOp]; go_simp
          · refine Draw.Goes.yes 17 false 62 rfl rfl (hKn.get 17 62 rfl rfl rfl) ?_
            exact Draw.Runs.value (w' := W) (v := ρ (.tmp 9)) rfl ⟨hJ, Below.refl _ _, hKn.2 9 rfl⟩
          · refine Draw.Goes.yes 17 false 62 rfl rfl (hKn.get 17 62 rfl rfl rfl) ?_
            have h0 : ρ (.tmp 65) = .pointer (some ⟨dm, 0, none⟩) := hKn.get 20 65 rfl rfl rfl
            refine Draw.Runs.value (w' := W) (v := .pointer (some ⟨dm, 0, none⟩)) ?_ ⟨hJ, Below.refl _ _, rfl⟩
            simp only [execOp]; go_simp
          · refine Draw.Goes.yes 17 false 62 rfl rfl (hKn.get 17 62 rfl rfl rfl) ?_
            have h0 : ρ (.tmp 66) = .pointer (some ⟨dm, 0, none⟩) := hKn.get 21 66 rfl rfl rfl
            refine Draw.Runs.value (w' := W) (v := .pointer (some ⟨dm, 2, none⟩)) ?_ ⟨hJ, Below.refl _ _, rfl⟩
            simp only [execOp]; go_simp
          · refine Draw.Goes.yes 17 false 62 rfl rfl (hKn.get 17 62 rfl rfl rfl) ?_
            have h0 : ρ (.tmp 67) = .pointer (some ⟨dm, 2, none⟩) := hKn.get 22 67 rfl rfl rfl
            have c : W.cell? ⟨dm, 2, none⟩ = some (.int .u64 m'.goal) := hJ.d.a.cell _ rfl
            refine Draw.Runs.value (w' := W) (v := .int .u64 m'.goal) ?_ ⟨hJ, Below.refl _ _, rfl⟩
            simp only [execOp]; go_simp
          · refine Draw.Goes.yes 17 false 62 rfl rfl (hKn.get 17 62 rfl rfl rfl) ?_
            have h0 : ρ (.tmp 64) = .int .u64 m'.goal := hKn.get 19 64 rfl rfl rfl
            have h1 : ρ (.tmp 68) = .int .u64 m'.goal := hKn.get 23 68 rfl rfl rfl
            refine Draw.Runs.value (w' := W) (v := .bool false) ?_ ⟨hJ, Below.refl _ _, rfl⟩
            simp only [execOp]; go_simp
          · refine Draw.Goes.plain rfl ?_
            have h0 : ρ (.tmp 62) = .bool false := hKn.get 17 62 rfl rfl rfl
            have h1 : ρ (.tmp 69) = .bool false := hKn.get 24 69 rfl rfl rfl
            refine Draw.Runs.value (w' := W) (v := .bool false) ?_ ⟨hJ, Below.refl _ _, rfl⟩
            simp only [execOp]; go_simp
          · refine Draw.Goes.plain rfl ?_
            exact Draw.Runs.value (w' := W) (v := ρ (.tmp 70)) rfl ⟨hJ, Below.refl _ _, hKn.get 25 70 rfl rfl rfl⟩
          · refine Draw.Goes.yes 26 false 71 rfl rfl (hKn.get 26 71 rfl rfl rfl) ?_
            exact Draw.Runs.value (w' := W) (v := ρ (.tmp 8)) rfl ⟨hJ, Below.refl _ _, hKn.2 8 rfl⟩
          · refine Draw.Goes.yes 26 false 71 rfl rfl (hKn.get 26 71 rfl rfl rfl) ?_
            have h0 : ρ (.tmp 72) = .pointer (some ⟨gm, 0, none⟩) := hKn.get 27 72 rfl rfl rfl
            refine Draw.Runs.enter (f := 44) (args := #[.pointer (some ⟨gm, 0, none⟩)]) ?_ ((HLK.out W hJ).mono fun e W' ⟨he, hb⟩ => ⟨_, he, by subst hb; exact hJ, by subst hb; exact Below.refl _ _, rfl⟩)
            simp only [execOp]; go_simp
          · refine Draw.Goes.yes 26 false 71 rfl rfl (hKn.get 26 71 rfl rfl rfl) ?_
            have h0 : ρ (.tmp 73) = .pointer (some ⟨gl, 0, none⟩) := hKn.get 28 73 rfl rfl rfl
            refine Draw.Runs.enter (f := 30) (args := #[.pointer (some ⟨gl, 0, none⟩)]) ?_ ((HEP.out W hJ).mono fun e W' ⟨he, hb⟩ => ⟨_, he, by subst hb; exact hJ, by subst hb; exact Below.refl _ _, rfl⟩)
            simp only [execOp]; go_simp
          · refine Draw.Goes.yes 26 false 71 rfl rfl (hKn.get 26 71 rfl rfl rfl) ?_
            exact Draw.Runs.value (w' := W) (v := ρ (.tmp 9)) rfl ⟨hJ, Below.refl _ _, hKn.2 9 rfl⟩
          · refine Draw.Goes.yes 26 false 71 rfl rfl (hKn.get 26 71 rfl rfl rfl) ?_
            have h0 : ρ (.tmp 75) = .pointer (some ⟨dm, 0, none⟩) := hKn.get 30 75 rfl rfl rfl
            refine Draw.Runs.value (w' := W) (v := .pointer (some ⟨dm, 0, none⟩)) ?_ ⟨hJ, Below.refl _ _, rfl⟩
            simp only [execOp]; go_simp
          · refine Draw.Goes.yes 26 false 71 rfl rfl (hKn.get 26 71 rfl rfl rfl) ?_
            have h0 : ρ (.tmp 76) = .pointer (some ⟨dm, 0, none⟩) := hKn.get 31 76 rfl rfl rfl
            refine Draw.Runs.value (w' := W) (v := .pointer (some ⟨dm, 0, none⟩)) ?_ ⟨hJ, Below.refl _ _, rfl⟩
            simp only [execOp]; go_simp
          · refine Draw.Goes.yes 26 false 71 rfl rfl (hKn.get 26 71 rfl rfl rfl) ?_
            have h0 : ρ (.tmp 77) = .pointer (some ⟨dm, 0, none⟩) := hKn.get 32 77 rfl rfl rfl
            have c : W.cell? ⟨dm, 0, none⟩ = some (.pointer (some ⟨dl, 0, none⟩)) := hJ.d.a.cell _ rfl
            refine Draw.Runs.value (w' := W) (v := .pointer (some ⟨dl, 0, none⟩)) ?_ ⟨hJ, Below.refl _ _, rfl⟩
            simp only [execOp]; go_simp
          · refine Draw.Goes.yes 26 false 71 rfl rfl (hKn.get 26 71 rfl rfl rfl) ?_
            have h0 : ρ (.tmp 78) = .pointer (some ⟨dl, 0, none⟩) := hKn.get 33 78 rfl rfl rfl
            refine Draw.Runs.value (w' := W) (v := .pointer (some ⟨dl, 0, none⟩)) ?_ ⟨hJ, Below.refl _ _, rfl⟩
            simp only [execOp]; go_simp
          · refine Draw.Goes.yes 26 false 71 rfl rfl (hKn.get 26 71 rfl rfl rfl) ?_
            have h0 : ρ (.tmp 79) = .pointer (some ⟨dl, 0, none⟩) := hKn.get 34 79 rfl rfl rfl
            refine Draw.Runs.value (w' := W) (v := .pointer (some ⟨dl, 3, none⟩)) ?_ ⟨hJ, Below.refl _ _, rfl⟩
            simp only [execOp]; go_simp
          · refine Draw.Goes.yes 26 false 71 rfl rfl (hKn.get 26 71 rfl rfl rfl) ?_
            have h0 : ρ (.tmp 80) = .pointer (some ⟨dl, 3, none⟩) := hKn.get 35 80 rfl rfl rfl
            have c : W.cell? ⟨dl, 3, none⟩ = some (.int .u64 m'.l.epoch) := hJ.d.b.cell _ rfl
            refine Draw.Runs.value (w' := W) (v := .int .u64 m'.l.epoch) ?_ ⟨hJ, Below.refl _ _, rfl⟩
            simp only [execOp]; go_simp
          · refine Draw.Goes.yes 26 false 71 rfl rfl (hKn.get 26 71 rfl rfl rfl) ?_
            have h0 : ρ (.tmp 74) = .int .u64 m'.l.epoch := hKn.get 29 74 rfl rfl rfl
            have h1 : ρ (.tmp 81) = .int .u64 m'.l.epoch := hKn.get 36 81 rfl rfl rfl
            refine Draw.Runs.value (w' := W) (v := .bool false) ?_ ⟨hJ, Below.refl _ _, rfl⟩
            simp only [execOp]; go_simp
          · refine Draw.Goes.plain rfl ?_
            have h0 : ρ (.tmp 71) = .bool false := hKn.get 26 71 rfl rfl rfl
            have h1 : ρ (.tmp 82) = .bool false := hKn.get 37 82 rfl rfl rfl
            refine Draw.Runs.value (w' := W) (v := .bool false) ?_ ⟨hJ, Below.refl _ _, rfl⟩
            simp only [execOp]; go_simp
          · refine Draw.Goes.plain rfl ?_
            exact Draw.Runs.value (w' := W) (v := ρ (.tmp 83)) rfl ⟨hJ, Below.refl _ _, hKn.get 38 83 rfl rfl rfl⟩
          · refine Draw.Goes.yes 39 false 84 rfl rfl (hKn.get 39 84 rfl rfl rfl) ?_
            exact Draw.Runs.value (w' := W) (v := ρ (.tmp 8)) rfl ⟨hJ, Below.refl _ _, hKn.2 8 rfl⟩
          · refine Draw.Goes.yes 39 false 84 rfl rfl (hKn.get 39 84 rfl rfl rfl) ?_
            have h0 : ρ (.tmp 85) = .pointer (some ⟨gm, 0, none⟩) := hKn.get 40 85 rfl rfl rfl
            refine Draw.Runs.enter (f := 44) (args := #[.pointer (some ⟨gm, 0, none⟩)]) ?_ ((HLK.out W hJ).mono fun e W' ⟨he, hb⟩ => ⟨_, he, by subst hb; exact hJ, by subst hb; exact Below.refl _ _, rfl⟩)
            simp only [execOp]; go_simp
          · refine Draw.Goes.yes 39 false 84 rfl rfl (hKn.get 39 84 rfl rfl rfl) ?_
            have h0 : ρ (.tmp 86) = .pointer (some ⟨gl, 0, none⟩) := hKn.get 41 86 rfl rfl rfl
            refine Draw.Runs.enter (f := 33) (args := #[.pointer (some ⟨gl, 0, none⟩)]) ?_ ((HME.out W hJ).mono fun e W' ⟨he, hb⟩ => ⟨_, he, by subst hb; exact hJ, by subst hb; exact Below.refl _ _, rfl⟩)
            simp only [execOp]; go_simp
          · refine Draw.Goes.yes 39 false 84 rfl rfl (hKn.get 39 84 rfl rfl rfl) ?_
            exact Draw.Runs.value (w' := W) (v := ρ (.tmp 9)) rfl ⟨hJ, Below.refl _ _, hKn.2 9 rfl⟩
          · refine Draw.Goes.yes 39 false 84 rfl rfl (hKn.get 39 84 rfl rfl rfl) ?_
            have h0 : ρ (.tmp 88) = .pointer (some ⟨dm, 0, none⟩) := hKn.get 43 88 rfl rfl rfl
            refine Draw.Runs.value (w' := W) (v := .pointer (some ⟨dm, 0, none⟩)) ?_ ⟨hJ, Below.refl _ _, rfl⟩
            simp only [execOp]; go_simp
          · refine Draw.Goes.yes 39 false 84 rfl rfl (hKn.get 39 84 rfl rfl rfl) ?_
            have h0 : ρ (.tmp 89) = .pointer (some ⟨dm, 0, none⟩) := hKn.get 44 89 rfl rfl rfl
            refine Draw.Runs.value (w' := W) (v := .pointer (some ⟨dm, 0, none⟩)) ?_ ⟨hJ, Below.refl _ _, rfl⟩
            simp only [execOp]; go_simp
          · refine Draw.Goes.yes 39 false 84 rfl rfl (hKn.get 39 84 rfl rfl rfl) ?_
            have h0 : ρ (.tmp 90) = .pointer (some ⟨dm, 0, none⟩) := hKn.get 45 90 rfl rfl rfl
            have c : W.cell? ⟨dm, 0, none⟩ = some (.pointer (some ⟨dl, 0, none⟩)) := hJ.d.a.cell _ rfl
            refine Draw.Runs.value (w' := W) (v := .pointer (some ⟨dl, 0, none⟩)) ?_ ⟨hJ, Below.refl _ _, rfl⟩
            simp only [execOp]; go_simp
          · refine Draw.Goes.yes 39 false 84 rfl rfl (hKn.get 39 84 rfl rfl rfl) ?_
            have h0 : ρ (.tmp 91) = .pointer (some ⟨dl, 0, none⟩) := hKn.get 46 91 rfl rfl rfl
            refine Draw.Runs.value (w' := W) (v := .pointer (some ⟨dl, 0, none⟩)) ?_ ⟨hJ, Below.refl _ _, rfl⟩
            simp only [execOp]; go_simp
          · refine Draw.Goes.yes 39 false 84 rfl rfl (hKn.get 39 84 rfl rfl rfl) ?_
            have h0 : ρ (.tmp 92) = .pointer (some ⟨dl, 0, none⟩) := hKn.get 47 92 rfl rfl rfl
            refine Draw.Runs.value (w' := W) (v := .pointer (some ⟨dl, 6, none⟩)) ?_ ⟨hJ, Below.refl _ _, rfl⟩
            simp only [execOp]; go_simp
          · refine Draw.Goes.yes 39 false 84 rfl rfl (hKn.get 39 84 rfl rfl rfl) ?_
            have h0 : ρ (.tmp 93) = .pointer (some ⟨dl, 6, none⟩) := hKn.get 48 93 rfl rfl rfl
            have c : W.cell? ⟨dl, 6, none⟩ = some (.bool m'.l.met) := hJ.d.b.cell _ rfl
            refine Draw.Runs.value (w' := W) (v := .bool m'.l.met) ?_ ⟨hJ, Below.refl _ _, rfl⟩
            simp only [execOp]; go_simp
          · refine Draw.Goes.yes 39 false 84 rfl rfl (hKn.get 39 84 rfl rfl rfl) ?_
            have h0 : ρ (.tmp 87) = .bool m'.l.met := hKn.get 42 87 rfl rfl rfl
            have h1 : ρ (.tmp 94) = .bool m'.l.met := hKn.get 49 94 rfl rfl rfl
            refine Draw.Runs.value (w' := W) (v := .bool false) ?_ ⟨hJ, Below.refl _ _, rfl⟩
            simp only [execOp]; go_simp
          · refine Draw.Goes.plain rfl ?_
            have h0 : ρ (.tmp 84) = .bool false := hKn.get 39 84 rfl rfl rfl
            have h1 : ρ (.tmp 95) = .bool false := hKn.get 50 95 rfl rfl rfl
            refine Draw.Runs.value (w' := W) (v := .bool false) ?_ ⟨hJ, Below.refl _ _, rfl⟩
            simp only [execOp]; go_simp
          · refine Draw.Goes.plain rfl ?_
            exact Draw.Runs.value (w' := W) (v := ρ (.tmp 96)) rfl ⟨hJ, Below.refl _ _, hKn.get 51 96 rfl rfl rfl⟩
          · refine Draw.Goes.yes 52 false 97 rfl rfl (hKn.get 52 97 rfl rfl rfl) ?_
            exact Draw.Runs.value (w' := W) (v := ρ (.tmp 8)) rfl ⟨hJ, Below.refl _ _, hKn.2 8 rfl⟩
          · refine Draw.Goes.yes 52 false 97 rfl rfl (hKn.get 52 97 rfl rfl rfl) ?_
            have h0 : ρ (.tmp 98) = .pointer (some ⟨gm, 0, none⟩) := hKn.get 53 98 rfl rfl rfl
            refine Draw.Runs.enter (f := 44) (args := #[.pointer (some ⟨gm, 0, none⟩)]) ?_ ((HLK.out W hJ).mono fun e W' ⟨he, hb⟩ => ⟨_, he, by subst hb; exact hJ, by subst hb; exact Below.refl _ _, rfl⟩)
            simp only [execOp]; go_simp
          · refine Draw.Goes.yes 52 false 97 rfl rfl (hKn.get 52 97 rfl rfl rfl) ?_
            have h0 : ρ (.tmp 99) = .pointer (some ⟨gl, 0, none⟩) := hKn.get 54 99 rfl rfl rfl
            refine Draw.Runs.enter (f := 31) (args := #[.pointer (some ⟨gl, 0, none⟩)]) ?_ ((HCO.out W hJ).mono fun e W' ⟨he, hb⟩ => ⟨_, he, by subst hb; exact hJ, by subst hb; exact Below.refl _ _, rfl⟩)
            simp only [execOp]; go_simp
          · refine Draw.Goes.yes 52 false 97 rfl rfl (hKn.get 52 97 rfl rfl rfl) ?_
            exact Draw.Runs.value (w' := W) (v := ρ (.tmp 9)) rfl ⟨hJ, Below.refl _ _, hKn.2 9 rfl⟩
          · refine Draw.Goes.yes 52 false 97 rfl rfl (hKn.get 52 97 rfl rfl rfl) ?_
            have h0 : ρ (.tmp 101) = .pointer (some ⟨dm, 0, none⟩) := hKn.get 56 101 rfl rfl rfl
            refine Draw.Runs.value (w' := W) (v := .pointer (some ⟨dm, 0, none⟩)) ?_ ⟨hJ, Below.refl _ _, rfl⟩
            simp only [execOp]; go_simp
          · refine Draw.Goes.yes 52 false 97 rfl rfl (hKn.get 52 97 rfl rfl rfl) ?_
            have h0 : ρ (.tmp 102) = .pointer (some ⟨dm, 0, none⟩) := hKn.get 57 102 rfl rfl rfl
            refine Draw.Runs.value (w' := W) (v := .pointer (some ⟨dm, 0, none⟩)) ?_ ⟨hJ, Below.refl _ _, rfl⟩
            simp only [execOp]; go_simp
          · refine Draw.Goes.yes 52 false 97 rfl rfl (hKn.get 52 97 rfl rfl rfl) ?_
            have h0 : ρ (.tmp 103) = .pointer (some ⟨dm, 0, none⟩) := hKn.get 58 103 rfl rfl rfl
            have c : W.cell? ⟨dm, 0, none⟩ = some (.pointer (some ⟨dl, 0, none⟩)) := hJ.d.a.cell _ rfl
            refine Draw.Runs.value (w' := W) (v := .pointer (some ⟨dl, 0, none⟩)) ?_ ⟨hJ, Below.refl _ _, rfl⟩
            simp only [execOp]; go_simp
          · refine Draw.Goes.yes 52 false 97 rfl rfl (hKn.get 52 97 rfl rfl rfl) ?_
            have h0 : ρ (.tmp 104) = .pointer (some ⟨dl, 0, none⟩) := hKn.get 59 104 rfl rfl rfl
            refine Draw.Runs.value (w' := W) (v := .pointer (some ⟨dl, 0, none⟩)) ?_ ⟨hJ, Below.refl _ _, rfl⟩
            simp only [execOp]; go_simp
          · refine Draw.Goes.yes 52 false 97 rfl rfl (hKn.get 52 97 rfl rfl rfl) ?_
            have h0 : ρ (.tmp 105) = .pointer (some ⟨dl, 0, none⟩) := hKn.get 60 105 rfl rfl rfl
            refine Draw.Runs.value (w' := W) (v := .pointer (some ⟨dl, 4, none⟩)) ?_ ⟨hJ, Below.refl _ _, rfl⟩
            simp only [execOp]; go_simp
          · refine Draw.Goes.yes 52 false 97 rfl rfl (hKn.get 52 97 rfl rfl rfl) ?_
            have h0 : ρ (.tmp 106) = .pointer (some ⟨dl, 4, none⟩) := hKn.get 61 106 rfl rfl rfl
            have c : W.cell? ⟨dl, 4, none⟩ = some (.int .u64 m'.l.count) := hJ.d.b.cell _ rfl
            refine Draw.Runs.value (w' := W) (v := .int .u64 m'.l.count) ?_ ⟨hJ, Below.refl _ _, rfl⟩
            simp only [execOp]; go_simp
          · refine Draw.Goes.yes 52 false 97 rfl rfl (hKn.get 52 97 rfl rfl rfl) ?_
            have h0 : ρ (.tmp 100) = .int .u64 m'.l.count := hKn.get 55 100 rfl rfl rfl
            have h1 : ρ (.tmp 107) = .int .u64 m'.l.count := hKn.get 62 107 rfl rfl rfl
            refine Draw.Runs.value (w' := W) (v := .bool false) ?_ ⟨hJ, Below.refl _ _, rfl⟩
            simp only [execOp]; go_simp
          · refine Draw.Goes.plain rfl ?_
            have h0 : ρ (.tmp 97) = .bool false := hKn.get 52 97 rfl rfl rfl
            have h1 : ρ (.tmp 108) = .bool false := hKn.get 63 108 rfl rfl rfl
            refine Draw.Runs.value (w' := W) (v := .bool false) ?_ ⟨hJ, Below.refl _ _, rfl⟩
            simp only [execOp]; go_simp
        · intro u2 W3 hJ hf
          have r109 : u2 109 = .bool false := hf 64 _ 109 (by decide) rfl rfl
          simp only [List.foldl_cons, List.foldl_nil, List.setIfInBounds_toArray, List.set_cons_succ, List.set_cons_zero, r109]
          have HD3 := Lib.hid hJ
          clear hJ hf
          go_wp2
          go_roundw
          case rel => exact ⟨j + 1, m', by omega, by go_num, HM'.out, HD3.out⟩
          case measure => simp [intOf]; omega
    · obtain rfl : j = xs.length := by omega
      have hB := hd.bel
      clear hd hd3
      go_wp2_with fail
      refine (HA.out _).mono ?_
      rintro r w4 ⟨rfl, hb⟩
      have hB3 := hB.trans (hb.mono hB.size)
      clear hb hB
      go_wp2
      go_ret
      exact ⟨rfl, hB3⟩
end Go.Proofs.YtdgbililgkhjfaaDoor.Rs
