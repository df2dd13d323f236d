/- A machine that meets the other one: plain words. No conditions. What the program's functions of a machine answer, but Out: walked. Conditions: the machine's blocks; the numbers are what their types bear; the lists lie in memory; the table. The program's Out: walked. Conditions: the machine's blocks; the numbers are what their types bear. Acts of the laws of the layer resume in memory, and as an argument; 'few': walked. Condition: the acts lie in memory. The laws' 'told' and 'awake' of the layer resume: walked. Condition: the table. The law ResumeKnows: walked. Conditions: the acts lie in memory; the table. Machines that are none; two machines; the law ResumeKnown: walked. Condition: the table. Two machines that tell each other what they tell, whatever is lost first: both get to Running: the plain law. No conditions. Two machines that tell each other what they tell: 'give' and 'meet' of the law ResumeMeets, walked. Conditions: the machines and sides lie in memory; the table. The law ResumeMeets: walked. Conditions: the flags lie in memory; the table. The arguments of the law ResumeMeets. No conditions. -/
import Derived.Test.YtdgbililgkhjfaaDoorLkC
import Derived.Test.YtdgbililgkhjfaaDoorLkD
import Derived.Deep.AppendLies
import Derived.Test.YtdgbililgkhjfaaDoorLkF
import Derived.Test.YtdgbililgkhjfaaDoorPkN
import Derived.Deep.Grids
namespace Go.Proofs.YtdgbililgkhjfaaDoor.Rs
open Go.RowKit Go.Proofs.YtdgbililgkhjfaaDoor.Crc Go.Proofs.YtdgbililgkhjfaaDoor.Codec Go.Proofs.YtdgbililgkhjfaaDoor.Pk Go.Proofs.YtdgbililgkhjfaaDoor.Lk
set_option linter.unusedVariables false
/-- A machine. -/
structure M where
  l : L
  st : Nat
  goal : Nat
  owes : Bool
/-- Its cells, its link lying at block g. -/
def mc (m : M) (g : Nat) : Array Value := #[.pointer (some ⟨g, 0, none⟩), .int .i64 m.st, .int .u64 m.goal, .bool m.owes]
def M.make (p e v : Nat) : M := ⟨L.make p e v, 1, 0, false⟩
def M.st1 (m : M) (l' : L) : Nat := if l'.epoch = m.l.epoch then m.st else 1
def M.met1 (m : M) (l' : L) : Bool := decide (m.st1 l' = 1) && l'.met
/-- A packet was taken: what it is then; the link is l'. -/
def M.took (m : M) (k : K) (l' : L) : M := ⟨l', if m.met1 l' = true then 2 else m.st1 l', if m.met1 l' = true then l'.count else m.goal, m.owes || decide (k.kind = 1)⟩
/-- What 'On' answers, and what the machine is then. -/
def M.on (m : M) (k : K) : M × Int := if (m.l.acc k).2 = 0 then (m.took k (m.l.acc k).1, 0) else (m, (m.l.acc k).2)
def M.look (m : M) (c : Nat) : M := ⟨m.l, if m.st = 2 ∧ m.goal ≤ c then 3 else m.st, m.goal, m.owes⟩
/-- A packet that is told. -/
def told (l : L) (kd : Int) (c own : Nat) : K := { l.hdr kd c with own := max own c }
/-- What 'Out' tells, and what the machine is then. -/
def M.says (m : M) (now : Nat) : Bool := decide (m.st = 1) && m.l.due now
def M.out (m : M) (now c own : Nat) : List K := (if m.owes then [told m.l 2 c own] else []) ++ (if m.says now then [told m.l 1 c own] else [])
def M.outs (m : M) (now : Nat) : M := ⟨if m.says now then m.l.sent now else m.l, m.st, m.goal, false⟩
structure M.wf (m : M) : Prop where
  l : m.l.wf
  st : 1 ≤ m.st ∧ m.st ≤ 3
  goal : m.goal < 18446744073709551616
theorem M.took_wf {m : M} {k : K} {l' : L} (h : m.wf) (h' : l'.wf) : (m.took k l').wf := by
  have h1 := h.st
  have h2 : 1 ≤ m.st1 l' ∧ m.st1 l' ≤ 3 := by
    unfold M.st1
    split <;> omega
  refine ⟨h', ?_, ?_⟩
  · show 1 ≤ (if m.met1 l' = true then 2 else m.st1 l') ∧ (if m.met1 l' = true then 2 else m.st1 l') ≤ 3
    split <;> omega
  · show (if m.met1 l' = true then l'.count else m.goal) < _
    split
    · exact h'.count
    · exact h.goal
theorem M.on_wf {m : M} {k : K} (h : m.wf) (hk : k.wf) : (m.on k).1.wf := by
  unfold M.on
  split
  · exact M.took_wf h (L.acc_wf h.l hk)
  · exact h
theorem M.look_wf {m : M} {c : Nat} (h : m.wf) : (m.look c).wf := by
  have h1 := h.st
  refine ⟨h.l, ?_, h.goal⟩
  show 1 ≤ (if m.st = 2 ∧ m.goal ≤ c then 3 else m.st) ∧ (if m.st = 2 ∧ m.goal ≤ c then 3 else m.st) ≤ 3
  split <;> omega
theorem M.outs_wf {m : M} {now : Nat} (h : m.wf) (hn : now < 18446744073709551616) : (m.outs now).wf := by
  refine ⟨?_, h.st, h.goal⟩
  show (if m.says now then m.l.sent now else m.l).wf
  split
  · exact L.sent_wf h.l hn
  · exact h.l
theorem M.make_wf {p e v : Nat} (h1 : p < 256) (h2 : e < 18446744073709551616) (h3 : 0 < v) (h4 : v ≤ 16) : (M.make p e v).wf :=
  ⟨L.make_wf h1 h2 h3 h4, ⟨Nat.le_refl 1, (by decide : 1 ≤ 3)⟩, (by decide : 0 < 18446744073709551616)⟩
end Go.Proofs.YtdgbililgkhjfaaDoor.Rs
namespace Go.Proofs.YtdgbililgkhjfaaDoor.Rs
open Go.RowKit Go.Proofs.YtdgbililgkhjfaaDoor.Crc Go.Proofs.YtdgbililgkhjfaaDoor.Codec Go.Proofs.YtdgbililgkhjfaaDoor.Pk Go.Proofs.YtdgbililgkhjfaaDoor.CrcWalk Go.Proofs.YtdgbililgkhjfaaDoor.Frame Go.Proofs.YtdgbililgkhjfaaDoor.Lk
set_option linter.unusedVariables false
set_option linter.unusedSimpArgs false
abbrev MT := 95
abbrev PT := 26
theorem wp_value_at {P : Program} {Q : Exit → Act → World → Prop} {o : Oper} {a : Act} {w w' : World} {v : Value} {K : Act → World → Prop} (d : Option Tmp) (hd : o.dst = d) (h : (execOp a.eval o).run P w = .ok (.value v) w') (hK : K (a.put d v) w') : o.wp P a w K Q := by
  subst hd
  exact Draw.wp_value h hK
theorem runs_at {P : Program} {Q : Exit → Act → World → Prop} {o : Oper} {a : Act} {w : World} {R : World → Value → Prop} {K : Act → World → Prop} (d : Option Tmp) (hd : o.dst = d) (h : Draw.Runs P o a.eval w R) (hK : ∀ w' v, R w' v → K (a.put d v) w') : o.wp P a w K Q := by
  subst hd
  exact Draw.Runs.wp h hK
/-- A machine and its link lie in their blocks. -/
structure Mb (gm gl : Nat) (m : M) (W : World) : Prop where
  a : Blk W gm (mc m gl) MT
  b : Blk W gl (lc m.l) LT
  ne : gm ≠ gl
theorem Mb.call {gm gl : Nat} {m : M} {W W' : World} (h : Mb gm gl m W) (hb : Below W.heap.size W W') : Mb gm gl m W' :=
  ⟨(hb.block _ h.a.lt).trans h.a, (hb.block _ h.b.lt).trans h.b, h.ne⟩
theorem kq_below {B p q : Nat} {w w' : World} (h : Below B w w') : Kq B p q w w' := ⟨h.os, h.tape, h.output, h.size, fun k hk _ _ => h.block k hk⟩
theorem kq_kp {B p q : Nat} {w w' : World} (h : Kp B q w w') : Kq B p q w w' := ⟨h.os, h.tape, h.output, h.size, fun k hk _ hq => h.block k hk hq⟩
theorem kq_kp' {B p q : Nat} {w w' : World} (h : Kp B p w w') : Kq B p q w w' := ⟨h.os, h.tape, h.output, h.size, fun k hk hp _ => h.block k hk hp⟩
theorem Kq.blk {B p q g : Nat} {w w' : World} {cs : Array Value} {t : TypeId} (h : Kq B p q w w') (hb : Blk w g cs t) (hg : g < B) (h1 : g ≠ p) (h2 : g ≠ q) : Blk w' g cs t := (h.block g hg h1 h2).trans hb
theorem Kq.bel {B p q B' : Nat} {w w' : World} (h : Kq B p q w w') (h1 : B' ≤ B) (h2 : B' ≤ p) (h3 : B' ≤ q) : Below B' w w' := ⟨h.os, h.tape, h.output, h.size, fun k hk => h.block k (by omega) (by omega) (by omega)⟩
theorem acc_two (l : L) (k : K) : (l.acc k).1 = l ∨ (l.acc k).2 = 0 := by
  unfold L.acc
  split
  · exact .inl rfl
  · split
    · exact .inl rfl
    · exact .inr rfl
/-- Under way: the machine, its link, the packet that came. -/
structure Mx (w : World) (gm gl : Nat) (m : M) (k : K) (vi vp : Value) (W : World) : Prop where
  a : Blk W gm (mc m gl) MT
  b : Blk W gl (lc m.l) LT
  c : Blk W w.heap.size (pc k vi vp) PT
  kq : Kq w.heap.size gm gl w W
theorem Mx.call {w : World} {gm gl : Nat} {m : M} {k : K} {vi vp : Value} {W W' : World} (h : Mx w gm gl m k vi vp W) (hb : Below W.heap.size W W') : Mx w gm gl m k vi vp W' :=
  ⟨(hb.block _ h.a.lt).trans h.a, (hb.block _ h.b.lt).trans h.b, (hb.block _ h.c.lt).trans h.c, h.kq.trans (kq_below (hb.mono h.kq.size))⟩
theorem Mx.link {w : World} {gm gl : Nat} {m : M} {k : K} {vi vp : Value} {W W' : World} {l' : L} (h : Mx w gm gl m k vi vp W) (hb : Blk W' gl (lc l') LT) (hk : Kp W.heap.size gl W W') (hne : gm ≠ gl) (hl : gl < w.heap.size) : Mx w gm gl { m with l := l' } k vi vp W' :=
  ⟨(hk.block _ h.a.lt hne).trans h.a, hb, (hk.block _ h.c.lt (by omega)).trans h.c, h.kq.trans (kq_kp (hk.mono h.kq.size))⟩
theorem Mx.set {w : World} {gm gl : Nat} {m : M} {k : K} {vi vp : Value} {W : World} (h : Mx w gm gl m k vi vp W) (hne : gm ≠ gl) (hm : gm < w.heap.size) (off : Nat) (v : Value) (m' : M) (hs : (mc m gl).setIfInBounds off v = mc m' gl) (hl : m'.l = m.l) : Mx w gm gl m' k vi vp (W.setCell ⟨gm, off, none⟩ v) :=
  ⟨hs ▸ h.a.set v, by rw [hl]; exact far_blk h.b hne _ _, far_blk h.c (by omega) _ _, h.kq.trans (kq_kp' ((Kp.refl _ _ _).setCell ⟨gm, off, none⟩ rfl v))⟩
set_option maxRecDepth 100000 in
theorem mis_any (m : M) (gm gl : Nat) (w : World) (h : Mb gm gl m w) : Calls Tryd.prog 81 #[.pointer (some ⟨gm, 0, none⟩)] w fun e w' => e = .returned (.bool true) ∧ w = w' := by
  have c0 : w.cell? ⟨gm, 0, none⟩ = some (.pointer (some ⟨gl, 0, none⟩)) := h.a.cell _ rfl
  clear h
  go_enter Tryd.func81, Tryd.ntmps81
  go_wp2
  go_ret
  exact ⟨rfl, rfl⟩
set_option maxRecDepth 100000 in
theorem mlink_any (m : M) (gm gl : Nat) (w : World) (h : Mb gm gl m w) : Calls Tryd.prog 44 #[.pointer (some ⟨gm, 0, none⟩)] w fun e w' => e = .returned (.pointer (some ⟨gl, 0, none⟩)) ∧ w = w' := by
  have c0 : w.cell? ⟨gm, 0, none⟩ = some (.pointer (some ⟨gl, 0, none⟩)) := h.a.cell _ rfl
  clear h
  go_enter Tryd.func44, Tryd.ntmps44
  go_wp2
  go_ret
  exact ⟨rfl, rfl⟩
set_option maxRecDepth 100000 in
theorem mstate_any (m : M) (gm gl : Nat) (w : World) (h : Mb gm gl m w) : Calls Tryd.prog 47 #[.pointer (some ⟨gm, 0, none⟩)] w fun e w' => e = .returned (.int .i64 m.st) ∧ w = w' := by
  have c0 : w.cell? ⟨gm, 0, none⟩ = some (.pointer (some ⟨gl, 0, none⟩)) := h.a.cell _ rfl
  have c1 : w.cell? ⟨gm, 1, none⟩ = some (.int .i64 m.st) := h.a.cell _ rfl
  clear h
  go_enter Tryd.func47, Tryd.ntmps47
  go_wp2
  go_ret
  exact ⟨rfl, rfl⟩
set_option maxRecDepth 100000 in
theorem mgoal_any (m : M) (gm gl : Nat) (w : World) (h : Mb gm gl m w) : Calls Tryd.prog 50 #[.pointer (some ⟨gm, 0, none⟩)] w fun e w' => e = .returned (.int .u64 m.goal) ∧ w = w' := by
  have c0 : w.cell? ⟨gm, 0, none⟩ = some (.pointer (some ⟨gl, 0, none⟩)) := h.a.cell _ rfl
  have c2 : w.cell? ⟨gm, 2, none⟩ = some (.int .u64 m.goal) := h.a.cell _ rfl
  clear h
  go_enter Tryd.func50, Tryd.ntmps50
  go_wp2
  go_ret
  exact ⟨rfl, rfl⟩
set_option maxRecDepth 100000 in
theorem mlook_any (m : M) (c gm gl : Nat) (w : World) (h : Mb gm gl m w) : Calls Tryd.prog 46 #[.pointer (some ⟨gm, 0, none⟩), .int .u64 c] w fun e w' => e = .returned (.int .i64 (m.look c).st) ∧ Mb gm gl (m.look c) w' ∧ Kp w.heap.size gm w w' := by
  have c0 : w.cell? ⟨gm, 0, none⟩ = some (.pointer (some ⟨gl, 0, none⟩)) := h.a.cell _ rfl
  have c1 : w.cell? ⟨gm, 1, none⟩ = some (.int .i64 m.st) := h.a.cell _ rfl
  have c2 : w.cell? ⟨gm, 2, none⟩ = some (.int .u64 m.goal) := h.a.cell _ rfl
  have f1 : w.frozen? ⟨gm, 1, none⟩ = false := h.a.free
  by_cases h2 : m.st = 2
  · have t1 : ((m.st : Int) == 2) = true := by rw [h2]; rfl
    by_cases h3 : m.goal ≤ c
    · have HQ := Lib.hid (show m.look c = { m with st := 3 } by unfold M.look; rw [if_pos ⟨h2, h3⟩])
      have HB := Lib.hid (show Mb gm gl { m with st := 3 } (w.setCell ⟨gm, 1, none⟩ (.int .i64 3)) from ⟨h.a.set (off := 1) (.int .i64 3), far_blk h.b h.ne _ _, h.ne⟩)
      have HK := Lib.hid ((Kp.refl w.heap.size gm w).setCell ⟨gm, 1, none⟩ rfl (.int .i64 3))
      rw [HQ.out]
      clear h h2
      go_enter Tryd.func46, Tryd.ntmps46
      go_wp2
      go_ret
      exact ⟨rfl, HB.out, HK.out⟩
    · have HQ := Lib.hid (show m.look c = m by unfold M.look; rw [if_neg (fun hh => h3 hh.2)])
      have HB := Lib.hid h
      rw [HQ.out]
      clear h h2
      go_enter Tryd.func46, Tryd.ntmps46
      go_wp2
      go_ret
      exact ⟨rfl, HB.out, Kp.refl _ _ _⟩
  · have t1 : ((m.st : Int) == 2) = false := by rw [beq_eq_false_iff_ne]; omega
    have HQ := Lib.hid (show m.look c = m by unfold M.look; rw [if_neg (fun hh => h2 hh.1)])
    have HB := Lib.hid h
    rw [HQ.out]
    clear h h2
    go_enter Tryd.func46, Tryd.ntmps46
    go_wp2
    go_ret
    exact ⟨rfl, HB.out, Kp.refl _ _ _⟩
set_option maxRecDepth 100000 in
theorem mnew_yes (p e v : Nat) (w : World) (h : mayL p e v) (he : e < 18446744073709551616) :
    Calls Tryd.prog 41 #[.int .u8 p, .int .u64 e, .int .i64 v] w fun r w' => ∃ gm gl, r = .returned (.pointer (some ⟨gm, 0, none⟩)) ∧ Mb gm gl (M.make p e v) w' ∧ Below w.heap.size w w' ∧ w.heap.size ≤ gm ∧ w.heap.size ≤ gl := by
  have HN := Lib.hid (new_yes p e v w h he)
  clear h he
  go_enter Tryd.func41, Tryd.ntmps41
  go_wp2_with fail
  refine HN.out.mono ?_
  rintro r w1 ⟨rfl, hb, hbel⟩
  have HB := Lib.hid (show Mb w1.heap.size w.heap.size (M.make p e v) (w1.alloc (.cells (mc (M.make p e v) w.heap.size) MT)) from ⟨heap_alloc_new w1 _, hb.alloc _, by have := hb.lt; omega⟩)
  have HL := Lib.hid (hbel.alloc hbel.size (.cells (mc (M.make p e v) w.heap.size) MT))
  have hsz := hbel.size
  clear hb hbel
  go_wp2
  go_ret
  exact ⟨w1.heap.size, w.heap.size, rfl, HB.out, HL.out, hsz, Nat.le_refl _⟩
set_option maxRecDepth 100000 in
theorem mnew_no (p e : Nat) (v : Int) (w : World) (h : ¬ mayL p e v) :
    Calls Tryd.prog 41 #[.int .u8 p, .int .u64 e, .int .i64 v] w fun r w' => r = .returned (.pointer none) ∧ w = w' := by
  have HN := Lib.hid (fun W => new_no p e v W h)
  clear h
  go_enter Tryd.func41, Tryd.ntmps41
  go_wp2_with fail
  refine (HN.out _).mono ?_
  rintro r w' ⟨rfl, rfl⟩
  go_wp2
  go_ret
  exact ⟨rfl, rfl⟩
set_option maxRecDepth 100000 in
set_option maxHeartbeats 4000000 in
/-- What 'On' answers. -/
theorem mon_any (m : M) (k : K) (vi vp : Value) (gm gl : Nat) (w : World) (h : Mb gm gl m w) (hm : m.wf) (hk : k.wf) (hi : ∀ V, Kq w.heap.size gm gl w V → Ins V vi k.ins) (hp : ∀ V, Kq w.heap.size gm gl w V → Prs V vp k.prs) (hT : ∀ V, Kq w.heap.size gm gl w V → Tab V) :
    Calls Tryd.prog 45 #[.pointer (some ⟨gm, 0, none⟩), .agg (pc k vi vp)] w fun r w' => r = .returned (.int .i64 (m.on k).2) ∧ Mb gm gl (m.on k).1 w' ∧ Kq w.heap.size gm gl w w' := by
  have gmlt := h.a.lt
  have gllt := h.b.lt
  have hne := h.ne
  have hx0 : Mx w gm gl m k vi vp (w.alloc (.cells (pc k vi vp) PT)) := ⟨h.a.alloc _, h.b.alloc _, heap_alloc_new w _, kq_below ((Below.refl _ w).alloc (Nat.le_refl _) _)⟩
  have HIS := Lib.hid (fun V (d : Mx w gm gl m k vi vp V) => mis_any m gm gl V ⟨d.a, d.b, hne⟩)
  have HEP := Lib.hid (fun l V (hl : L.wf l) (hb : Blk V gl (lc l) LT) => epoch_any l gl V hb hl)
  have HCO := Lib.hid (fun l V (hl : L.wf l) (hb : Blk V gl (lc l) LT) => count_any l gl V hb hl)
  have HME := Lib.hid (fun l V (hl : L.wf l) (hb : Blk V gl (lc l) LT) => met_any l gl V hb hl)
  have HAC := Lib.hid (fun V (d : Mx w gm gl m k vi vp V) => acc_any m.l k vi vp gl V d.b hm.l hk (hi V d.kq) (hp V d.kq) (hT V d.kq))
  have HLW := Lib.hid hm.l
  obtain ⟨A, hA⟩ : ∃ A, A = m.l.acc k := ⟨_, rfl⟩
  obtain ⟨l', E⟩ := A
  have hlw' : l'.wf := by have := L.acc_wf (k := k) hm.l hk; rw [← hA] at this; exact this
  have HLW' := Lib.hid hlw'
  obtain ⟨R, hR⟩ : ∃ R, R = m.on k := ⟨_, rfl⟩
  rw [← hR]
  have hR2 : R = if E = 0 then (m.took k l', 0) else (m, E) := by rw [hR]; unfold M.on; rw [← hA]
  have hsame : E ≠ 0 → l' = m.l := by
    intro hE
    rcases acc_two m.l k with h1 | h1
    · rw [← hA] at h1; exact h1
    · rw [← hA] at h1; exact absurd h1 hE
  rw [← hA] at HAC
  dsimp only at HAC
  have HR := Lib.hid hR2
  have HSAME := Lib.hid hsame
  clear hA hR hR2 hsame hlw' hi hp hT hk hm h
  have hc0 := hx0.a
  have c0 : (w.alloc (.cells (pc k vi vp) PT)).cell? ⟨gm, 0, none⟩ = some (.pointer (some ⟨gl, 0, none⟩)) := hc0.cell _ rfl
  clear hc0
  go_enter Tryd.func45, Tryd.ntmps45
  go_wp2_with fail
  go_step3
  go_wp2_with fail
  refine (HIS.out _ hx0).mono ?_
  rintro r w' ⟨rfl, rfl⟩
  go_wp2_with fail
  refine (HEP.out m.l _ HLW.out hx0.b).mono ?_
  rintro r w' ⟨rfl, rfl⟩
  clear c0
  go_upto_region 4 with fail
  change Code.wp _ _ _ _ (w.alloc (.cells (pc k vi vp) PT))
  generalize w.alloc (.cells (pc k vi vp) PT) = w1 at *
  refine Draw.wp_region_prefix 5 (Mx w gm gl m k vi vp) (fun W W' => Below W.heap.size W W') (fun i W vv => match i with
      | 0 => vv = .pointer (some ⟨gm, 0, none⟩)
      | 1 => vv = .pointer (some ⟨gm, 0, none⟩)
      | 2 => vv = .pointer (some ⟨gm, 0, none⟩)
      | 3 => vv = .pointer (some ⟨gl, 0, none⟩)
      | _ => vv = .agg (pc k vi vp)) (by kernel_rfl) (by kernel_rfl) (by decide) rfl (by decide) (by decide) (by decide) ?_ (hx0.call (Below.refl _ _).drew) ?_ [15, 16, 17, 18, 19] (by rfl) 2 (by rfl) ?_
  · intro i W W' vv he hf
    exact hf
  · refine ⟨?_, ?_, ?_, ?_, ?_, trivial⟩
    all_goals intro ρ W hJ hc hf hKn
    · refine Draw.Goes.plain rfl ?_
      exact Draw.Runs.value (w' := W) (v := ρ (.tmp 0)) rfl ⟨hJ, Below.refl _ _, hKn.1.2 0 rfl⟩
    · refine Draw.Goes.plain rfl ?_
      have h0 : ρ (.tmp 15) = .pointer (some ⟨gm, 0, none⟩) := hKn.1.get 0 15 rfl rfl
      refine Draw.Runs.value (w' := W) (v := .pointer (some ⟨gm, 0, none⟩)) ?_ ⟨hJ, Below.refl _ _, rfl⟩
      simp only [execOp]; go_simp
    · refine Draw.Goes.plain rfl ?_
      have h0 : ρ (.tmp 16) = .pointer (some ⟨gm, 0, none⟩) := hKn.1.get 1 16 rfl rfl
      refine Draw.Runs.value (w' := W) (v := .pointer (some ⟨gm, 0, none⟩)) ?_ ⟨hJ, Below.refl _ _, rfl⟩
      simp only [execOp]; go_simp
    · refine Draw.Goes.plain rfl ?_
      have h0 : ρ (.tmp 17) = .pointer (some ⟨gm, 0, none⟩) := hKn.1.get 2 17 rfl rfl
      have c : W.cell? ⟨gm, 0, none⟩ = some (.pointer (some ⟨gl, 0, none⟩)) := hJ.a.cell _ rfl
      refine Draw.Runs.value (w' := W) (v := .pointer (some ⟨gl, 0, none⟩)) ?_ ⟨hJ, Below.refl _ _, rfl⟩
      simp only [execOp]; go_simp
    · refine Draw.Goes.plain rfl ?_
      have h0 : ρ (.tmp 3) = .pointer (some ⟨w.heap.size, 0, none⟩) := hKn.1.2 3 rfl
      refine Draw.Runs.value (w' := W) (v := .agg (pc k vi vp)) ?_ ⟨hJ, Below.refl _ _, rfl⟩
      exact Draw.load_row PT _ rfl _ h0 PT _ (0, 0) _ hJ.c Tryd.underlying26 rfl (pc_info k vi vp)
  · intro u W hJ hf
    have r18 : u 18 = .pointer (some ⟨gl, 0, none⟩) := hf 3 _ 18 (by decide) rfl rfl
    have r19 : u 19 = .agg (pc k vi vp) := hf 4 _ 19 (by decide) rfl rfl
    simp only [List.foldl_cons, List.foldl_nil, List.setIfInBounds_toArray, List.set_cons_succ, List.set_cons_zero, r18, r19]
    have hJ1 := hJ
    clear hJ hf
    refine Draw.wpAny_one (i := 5) (by kernel_rfl) rfl rfl ?_
    refine runs_at (some 20) rfl (R := fun V z => z = .int .i64 E ∧ Blk V gl (lc l') LT ∧ Kp W.heap.size gl W V) (Draw.Runs.enter (f := 34) (args := #[.pointer (some ⟨gl, 0, none⟩), .agg (pc k vi vp)]) (by simp only [execOp]; go_simp) ((HAC.out W hJ1).mono fun e W' ⟨he, hb⟩ => ⟨_, he, rfl, hb⟩)) ?_
    rintro W2 z ⟨rfl, hb2, hk2⟩
    refine Draw.wpAny_one (i := 6) (by kernel_rfl) rfl rfl ?_
    refine wp_value_at (some 6) rfl (v := .int .i64 E) (w' := W2) (by simp only [execOp]; go_simp) ?_
    refine Draw.wpAny_end (by kernel_rfl) ?_
    simp only [Act.put, List.setIfInBounds_toArray, List.set_cons_succ, List.set_cons_zero]
    have hx2 : Mx w gm gl { m with l := l' } k vi vp W2 := hJ1.link hb2 hk2 hne gllt
    clear hb2 hk2 hJ1 hx0
    by_cases hE : E = 0
    case neg =>
      obtain rfl : R = (m, E) := HR.out.trans (if_neg hE)
      have hEn : (E != 0) = true := by rw [bne_iff_ne]; exact hE
      obtain rfl := HSAME.out hE
      have HX := Lib.hid hx2
      clear hx2 hE
      go_wp2
      go_ret
      exact ⟨rfl, ⟨HX.out.a, HX.out.b, hne⟩, HX.out.kq⟩
    case pos =>
      subst hE
      obtain rfl : R = (m.took k l', 0) := HR.out.trans (if_pos rfl)
      have c0 : W2.cell? ⟨gm, 0, none⟩ = some (.pointer (some ⟨gl, 0, none⟩)) := hx2.a.cell _ rfl
      have c3 : W2.cell? ⟨gm, 3, none⟩ = some (.bool m.owes) := hx2.a.cell _ rfl
      have f3 : W2.frozen? ⟨gm, 3, none⟩ = false := hx2.a.free
      have b0 : W2.cell? ⟨w.heap.size, 0, none⟩ = some (.int .i64 k.kind) := hx2.c.cell _ rfl
      have HX := Lib.hid hx2
      clear hx2
      obtain ⟨O, hO⟩ : ∃ O, O = (m.owes || decide (k.kind = 1)) := ⟨_, rfl⟩
      have HO := Lib.hid hO
      clear hO
      go_upto_region 7 with fail
      go_cut [] (fun wx => Mx w gm gl { m with l := l', owes := O } k vi vp wx)
      case first =>
        cases ho : m.owes with
        | true =>
          have HQ := Lib.hid (show O = true by rw [HO.out, ho]; rfl)
          have HS := Lib.hid (HX.out.set hne gmlt 3 (.bool true) { m with l := l', owes := true } rfl rfl)
          rw [ho] at c3
          go_wp2
          go_meet
          rw [HQ.out]
          exact HS.out
        | false =>
          obtain ⟨T, hT⟩ : ∃ T, (k.kind == 1) = T := ⟨_, rfl⟩
          have HQ := Lib.hid (show O = T by rw [HO.out, ho, ← hT, Bool.false_or, Bool.eq_iff_iff]; simp)
          have HS := Lib.hid (HX.out.set hne gmlt 3 (.bool T) { m with l := l', owes := T } rfl rfl)
          rw [ho] at c3
          go_wp2
          go_meet
          rw [HQ.out]
          exact HS.out
      case rest =>
      have hx3 := hcut
      clear hcut HX c0 c3 f3 b0
      have c0 : wc.cell? ⟨gm, 0, none⟩ = some (.pointer (some ⟨gl, 0, none⟩)) := hx3.a.cell _ rfl
      have c1 : wc.cell? ⟨gm, 1, none⟩ = some (.int .i64 m.st) := hx3.a.cell _ rfl
      have f1 : wc.frozen? ⟨gm, 1, none⟩ = false := hx3.a.free
      have HX := Lib.hid hx3
      clear hx3
      obtain ⟨s1, hs1⟩ : ∃ s1, s1 = m.st1 l' := ⟨_, rfl⟩
      have HS1 := Lib.hid hs1
      clear hs1
      go_upto_region 8 with fail
      go_cut [42] (fun z wx => z = .bool (decide (l'.epoch ≠ m.l.epoch)) ∧ wc = wx)
      case first =>
        go_wp2_with fail
        refine (HEP.out l' _ HLW'.out HX.out.b).mono ?_
        rintro r w' ⟨rfl, rfl⟩
        go_wp2
        go_meet
        refine ⟨?_, rfl⟩
        congr 1
        rw [Bool.eq_iff_iff, bne_iff_ne, decide_eq_true_iff]
        omega
      case rest =>
      obtain ⟨rfl, rfl⟩ := hcut
      go_upto_if 42 with fail
      go_cut [] (fun wx => Mx w gm gl { m with l := l', owes := O, st := s1 } k vi vp wx)
      case first =>
        by_cases he : l'.epoch = m.l.epoch
        · rw [decide_eq_false (fun hh => hh he)]
          have HQ := Lib.hid (show s1 = m.st by rw [HS1.out]; unfold M.st1; rw [if_pos he])
          clear he
          go_wp2
          go_meet
          rw [HQ.out]
          exact HX.out
        · rw [decide_eq_true he]
          have HQ := Lib.hid (show s1 = 1 by rw [HS1.out]; unfold M.st1; rw [if_neg he])
          have HS := Lib.hid (HX.out.set hne gmlt 1 (.int .i64 1) { m with l := l', owes := O, st := 1 } rfl rfl)
          clear he
          go_wp2
          go_meet
          rw [HQ.out]
          exact HS.out
      case rest =>
      have hx4 := hcut
      clear hcut HX c0 c1 f1
      have c0 : wc.cell? ⟨gm, 0, none⟩ = some (.pointer (some ⟨gl, 0, none⟩)) := hx4.a.cell _ rfl
      have c1 : wc.cell? ⟨gm, 1, none⟩ = some (.int .i64 s1) := hx4.a.cell _ rfl
      have c2 : wc.cell? ⟨gm, 2, none⟩ = some (.int .u64 m.goal) := hx4.a.cell _ rfl
      have f1 : wc.frozen? ⟨gm, 1, none⟩ = false := hx4.a.free
      have f2 : wc.frozen? ⟨gm, 2, none⟩ = false := hx4.a.free
      have HX := Lib.hid hx4
      clear hx4
      go_wp2_with fail
      go_step3
      by_cases h1 : s1 = 1
      · have t1 : ((s1 : Int) == 1) = true := by rw [h1]; rfl
        cases hmt : l'.met with
        | true =>
          have HQ := Lib.hid (show m.took k l' = { m with l := l', owes := O, st := 2, goal := l'.count } by
            unfold M.took M.met1
            rw [← HS1.out, decide_eq_true h1, hmt, HO.out]; rfl)
          have HS := Lib.hid ((HX.out.set hne gmlt 1 (.int .i64 2) { m with l := l', owes := O, st := 2 } rfl rfl).set hne gmlt 2 (.int .u64 l'.count) { m with l := l', owes := O, st := 2, goal := l'.count } rfl rfl)
          clear h1
          go_wp2_with fail
          refine (HME.out l' _ HLW'.out HX.out.b).mono ?_
          rintro r w' ⟨rfl, rfl⟩
          go_wp2_with fail
          refine (HCO.out l' _ HLW'.out HX.out.b).mono ?_
          rintro r w' ⟨rfl, rfl⟩
          go_wp2
          try rw [Exit.noGoto_ret]
          go_ret
          exact ⟨rfl, by rw [HQ.out]; exact ⟨HS.out.a, HS.out.b, hne⟩, HS.out.kq⟩
        | false =>
          have HQ := Lib.hid (show m.took k l' = { m with l := l', owes := O, st := s1 } by
            unfold M.took M.met1
            rw [← HS1.out, hmt, HO.out, Bool.and_false]; rfl)
          clear h1
          go_wp2_with fail
          refine (HME.out l' _ HLW'.out HX.out.b).mono ?_
          rintro r w' ⟨rfl, rfl⟩
          go_wp2
          try rw [Exit.noGoto_ret]
          go_ret
          exact ⟨rfl, by rw [HQ.out]; exact ⟨HX.out.a, HX.out.b, hne⟩, HX.out.kq⟩
      · have t1 : ((s1 : Int) == 1) = false := by rw [beq_eq_false_iff_ne]; omega
        have HQ := Lib.hid (show m.took k l' = { m with l := l', owes := O, st := s1 } by
          unfold M.took M.met1
          rw [← HS1.out, decide_eq_false h1, HO.out, Bool.false_and]; rfl)
        clear h1
        go_wp2
        try rw [Exit.noGoto_ret]
        go_ret
        exact ⟨rfl, by rw [HQ.out]; exact ⟨HX.out.a, HX.out.b, hne⟩, HX.out.kq⟩
end Go.Proofs.YtdgbililgkhjfaaDoor.Rs
namespace Go.Proofs.YtdgbililgkhjfaaDoor.Rs
open Go.RowKit Go.Proofs.YtdgbililgkhjfaaDoor.Crc Go.Proofs.YtdgbililgkhjfaaDoor.Codec Go.Proofs.YtdgbililgkhjfaaDoor.Pk Go.Proofs.YtdgbililgkhjfaaDoor.CrcWalk Go.Proofs.YtdgbililgkhjfaaDoor.Frame Go.Proofs.YtdgbililgkhjfaaDoor.Lk
set_option linter.unusedVariables false
set_option linter.unusedSimpArgs false
abbrev ST := 91
theorem infoK : (Tryd.prog.info? PT).map (fun i => (i.zero, i.size, i.bytes)) = some (some (.agg (pc K.zero nS nS)), 11, 120) := by kernel_rfl
/-- The cells of packets without lists. -/
def pks (l : List K) : List Value := l.flatMap fun k => (pc k nS nS).toList
theorem pks_app (l m : List K) : pks (l ++ m) = pks l ++ pks m := by unfold pks; rw [List.flatMap_append]
theorem pks_len (l : List K) : (pks l).length = l.length * 11 := by
  induction l with
  | nil => rfl
  | cons k t ih => unfold pks at *; rw [List.flatMap_cons, List.length_append, ih, List.length_cons]; show 11 + _ = _; omega
theorem pk_one (k : K) : ∀ u ∈ (pc k nS nS).toList, u.oneCell' = true := by
  intro u hu
  simp [pc] at hu
  rcases hu with rfl | rfl | rfl | rfl | rfl | rfl | rfl | rfl | rfl | rfl | rfl <;> simp [Value.oneCell']
theorem ownb {W W' : World} {B sz n : Nat} {e : TypeId} {v : Value} {xs : List Value} (h : W.ownsRow B e sz v n xs) (hk : Below W.heap.size W W') : W'.ownsRow B e sz v n xs := by
  refine ⟨h.1, ?_⟩
  rcases h.2 with h5 | ⟨b, cap, cur, e1, hb1, hb, hrest⟩
  · exact .inl h5
  · refine .inr ⟨b, cap, cur, e1, hb1, ?_, hrest⟩
    rw [hk.block b (Array.getElem?_eq_some_iff.1 hb).1]; exact hb
theorem ownf {W : World} {B q sz n : Nat} {e : TypeId} {v : Value} {xs : List Value} (h : W.ownsRow B e sz v n xs) (hq : q < B) (o : Nat) (u : Value) : (W.setCell ⟨q, o, none⟩ u).ownsRow B e sz v n xs := by
  refine ⟨h.1, ?_⟩
  rcases h.2 with h5 | ⟨g, cap, cur, e1, hb1, hg, hrest⟩
  · exact .inl h5
  · refine .inr ⟨g, cap, cur, e1, hb1, ?_, hrest⟩
    show (W.heap.modify q _)[g]? = _
    rw [Array.getElem?_modify, if_neg (by omega)]; exact hg
theorem wp_row_none {o : Oper} {a : Act} {w : World} {K : Act → World → Prop} {Q : Exit → Act → World → Prop} (hd : o.dst = none) (x y : Operand) (ho : o.op = .store PT x y) (g : Nat) (cells : Array Value) (hx : a.eval x = .pointer (some ⟨g, 0, none⟩)) (hy : a.eval y = .agg cells)
    (old : Array Value) (hg : w.heap[g]? = some (.cells old PT (0, 0))) (hi : (Tryd.prog.info? PT).map (·.size) = some cells.size) (hold : old.size = cells.size) (h1 : cells.all (·.oneCell') = true) (h : K a (w.setRow g cells)) : o.wp Tryd.prog a w K Q :=
  wp_store_row PT x y ho g cells hx hy PT old hg hi hold h1 (by rw [hd]; exact h)
theorem build_run {op : Oper} {ρ : Operand → Value} {w : World} (x : Operand) (k : K) (ho : op.op = .buildSlice ST 1 #[(0, x)]) (hx : ρ x = .agg (pc k nS nS)) :
    (execOp ρ op).run Tryd.prog w = .ok (.value (.slice (some ⟨w.heap.size, 0, none⟩) 1 1)) (w.alloc (.cells (pc k nS nS) PT)) := by
  unfold pc at hx
  unfold pc
  simp only [execOp, ho]
  go_simp
/-- A slice of one packet. -/
theorem build_pk {ops : Array Oper} {rest : List Oper} {op : Oper} {a : Act} {w : World} {Q : Exit → Act → World → Prop} (x : Operand) (k : K) (hgd : op.guard = none) (ho : op.op = .buildSlice ST 1 #[(0, x)])
    (hx : a.eval x = .agg (pc k nS nS)) (h : wpList Tryd.prog ops Q rest (a.put op.dst (.slice (some ⟨w.heap.size, 0, none⟩) 1 1)) (w.alloc (.cells (pc k nS nS) PT))) : wpList Tryd.prog ops Q (op :: rest) a w :=
  wpList_plain hgd fun _ hK => Draw.wp_value (build_run x k ho hx) (hK _ _ h)
/-- Within Out: the boxes of the machine, the count, the own count, and the list so far. -/
structure Bx (s gm gl : Nat) (m : M) (cn ow : Nat) (v : Value) (l : List K) (W : World) : Prop where
  m : Mb gm gl m W
  lm : gm < s
  ll : gl < s
  bm : Blk W s #[.pointer (some ⟨gm, 0, none⟩)] 76
  bc : Blk W (s + 1) #[.int .u64 cn] 22
  bo : Blk W (s + 2) #[.int .u64 ow] 22
  bl : Blk W (s + 3) #[v] ST
  own : W.ownsRow (s + 4) PT 11 v l.length (pks l)
theorem Bx.call {s gm gl : Nat} {m : M} {cn ow : Nat} {v : Value} {l : List K} {W W' : World} (h : Bx s gm gl m cn ow v l W) (hb : Below W.heap.size W W') : Bx s gm gl m cn ow v l W' :=
  ⟨h.m.call hb, h.lm, h.ll, (hb.block _ h.bm.lt).trans h.bm, (hb.block _ h.bc.lt).trans h.bc, (hb.block _ h.bo.lt).trans h.bo, (hb.block _ h.bl.lt).trans h.bl, ownb h.own hb⟩
theorem Bx.far {s gm gl : Nat} {m : M} {cn ow : Nat} {v : Value} {l : List K} {W : World} (h : Bx s gm gl m cn ow v l W) {q : Nat} (hq : s + 4 ≤ q) (off : Nat) (u : Value) (hown : ∀ k, v.ownBlock = some k → k ≠ q) : Bx s gm gl m cn ow v l (W.setCell ⟨q, off, none⟩ u) := by
  refine ⟨⟨far_blk h.m.a (by have := h.lm; omega) _ _, far_blk h.m.b (by have := h.ll; omega) _ _, h.m.ne⟩, h.lm, h.ll, far_blk h.bm (by omega) _ _, far_blk h.bc (by omega) _ _, far_blk h.bo (by omega) _ _, far_blk h.bl (by omega) _ _, ?_⟩
  refine ⟨h.own.1, ?_⟩
  rcases h.own.2 with h5 | ⟨g, cap, cur, e1, hb1, hg, hrest⟩
  · exact .inl h5
  · have hgq : g ≠ q := hown g (by rw [e1]; rfl)
    refine .inr ⟨g, cap, cur, e1, hb1, ?_, hrest⟩
    show (W.heap.modify q _)[g]? = _
    rw [Array.getElem?_modify, if_neg (fun e => hgq e.symm)]; exact hg
/-- The row of the list has grown: the boxes are as they were. -/
theorem Bx.grown {s gm gl : Nat} {m : M} {cn ow : Nat} {v : Value} {l : List K} {W W' : World} (h : Bx s gm gl m cn ow v l W) (hg : W.grownBy W' v.ownBlock) :
    Mb gm gl m W' ∧ (gm < s ∧ gl < s) ∧ Blk W' s #[.pointer (some ⟨gm, 0, none⟩)] 76 ∧ Blk W' (s + 1) #[.int .u64 cn] 22 ∧ Blk W' (s + 2) #[.int .u64 ow] 22 ∧ Blk W' (s + 3) #[v] ST := by
  have hl := h.own.lt
  have h1 := h.lm
  have h2 := h.ll
  exact ⟨⟨(hg.block gm h.m.a.lt (fun e => by have := (hl _ e.symm).1; omega)).trans h.m.a, (hg.block gl h.m.b.lt (fun e => by have := (hl _ e.symm).1; omega)).trans h.m.b, h.m.ne⟩, ⟨h1, h2⟩, (hg.block _ h.bm.lt (fun e => by have := (hl _ e.symm).1; omega)).trans h.bm,
    (hg.block _ h.bc.lt (fun e => by have := (hl _ e.symm).1; omega)).trans h.bc, (hg.block _ h.bo.lt (fun e => by have := (hl _ e.symm).1; omega)).trans h.bo, (hg.block _ h.bl.lt (fun e => by have := (hl _ e.symm).1; omega)).trans h.bl⟩
theorem Bx.listed {s gm gl : Nat} {m : M} {cn ow : Nat} {v v' : Value} {l : List K} {W : World}
    (h : Mb gm gl m W ∧ (gm < s ∧ gl < s) ∧ Blk W s #[.pointer (some ⟨gm, 0, none⟩)] 76 ∧ Blk W (s + 1) #[.int .u64 cn] 22 ∧ Blk W (s + 2) #[.int .u64 ow] 22 ∧ Blk W (s + 3) #[v] ST)
    (ho : W.ownsRow (s + 4) PT 11 v' l.length (pks l)) : Bx s gm gl m cn ow v' l (W.setCell ⟨s + 3, 0, none⟩ v') := by
  obtain ⟨hm, ⟨h1, h2⟩, a1, a2, a3, a4⟩ := h
  exact ⟨⟨far_blk hm.a (by omega) _ _, far_blk hm.b (by omega) _ _, hm.ne⟩, h1, h2, far_blk a1 (by omega) _ _, far_blk a2 (by omega) _ _, far_blk a3 (by omega) _ _, a4.set v', ownf ho (by omega) _ _⟩
set_option maxRecDepth 100000 in
set_option maxHeartbeats 4000000 in
/-- One more packet is told. -/
theorem add_any (kd : Int) (m : M) (cn ow s gm gl : Nat) (v : Value) (l : List K) (w : World) (h : Bx s gm gl m cn ow v l w) (hm : m.wf) (hl : l.length ≤ 1) (hc : cn < 18446744073709551616) (ho : ow < 18446744073709551616) :
    Calls Tryd.prog 85 #[.int .i64 kd, .pointer (some ⟨s, 0, none⟩), .pointer (some ⟨s + 1, 0, none⟩), .pointer (some ⟨s + 2, 0, none⟩), .pointer (some ⟨s + 3, 0, none⟩)] w fun r w' => r = .returned (.tuple #[]) ∧ ∃ v', Bx s gm gl m cn ow v' (l ++ [told m.l kd cn ow]) w' ∧ Below (s + 3) w w' := by
  obtain ⟨i0, hi, hz0, hz1, hz2⟩ := info_parts infoK
  have hs3 := h.bl.lt
  have HHD := Lib.hid (fun W (hb : Blk W gl (lc m.l) LT) => hdr_any m.l kd cn gl W hb hm.l)
  have HX0 := Lib.hid h
  clear hm h
  go_enter Tryd.func85, Tryd.ntmps85
  go_upto_region 0 with fail
  refine Draw.wp_region_prefix 8 (fun W => Bx s gm gl m cn ow v l W ∧ Below w.heap.size w W) (fun W W' => Below W.heap.size W W') (fun i W vv => match i with
      | 0 => vv = .pointer (some ⟨gm, 0, none⟩)
      | 1 => vv = .pointer (some ⟨gm, 0, none⟩)
      | 2 => vv = .pointer (some ⟨gm, 0, none⟩)
      | 3 => vv = .pointer (some ⟨gl, 0, none⟩)
      | 4 => vv = .int .i64 kd
      | 5 => vv = .int .u64 cn
      | 6 => vv = .agg (pc (m.l.hdr kd cn) nS nS)
      | _ => PtrT PT (pc K.zero nS nS) w.heap.size W vv) (by kernel_rfl) (by kernel_rfl) (by decide) rfl (by decide) (by decide) (by decide) ?_ ⟨HX0.out.call (Below.refl _ _).drew, (Below.refl _ _).drew⟩ ?_ [7, 8, 9, 10, 11, 12, 13, 6] (by rfl) 1 (by rfl) ?_
  · intro i W W' vv he hf
    match i with
    | n + 7 => exact PtrT.call hf he
    | 0 | 1 | 2 | 3 | 4 | 5 | 6 => exact hf
  · refine ⟨?_, ?_, ?_, ?_, ?_, ?_, ?_, ?_, trivial⟩
    all_goals intro ρ W hJ hc hf hKn
    · refine Draw.Goes.plain rfl ?_
      have h0 : ρ (.tmp 1) = .pointer (some ⟨s, 0, none⟩) := hKn.1.2 1 rfl
      have c : W.cell? ⟨s, 0, none⟩ = some (.pointer (some ⟨gm, 0, none⟩)) := hJ.1.bm.cell _ rfl
      refine Draw.Runs.value (w' := W) (v := .pointer (some ⟨gm, 0, none⟩)) ?_ ⟨hJ, Below.refl _ _, rfl⟩
      simp only [execOp]; go_simp
    · refine Draw.Goes.plain rfl ?_
      have h0 : ρ (.tmp 7) = .pointer (some ⟨gm, 0, none⟩) := hKn.1.get 0 7 rfl rfl
      refine Draw.Runs.value (w' := W) (v := .pointer (some ⟨gm, 0, none⟩)) ?_ ⟨hJ, Below.refl _ _, rfl⟩
      simp only [execOp]; go_simp
    · refine Draw.Goes.plain rfl ?_
      have h0 : ρ (.tmp 8) = .pointer (some ⟨gm, 0, none⟩) := hKn.1.get 1 8 rfl rfl
      refine Draw.Runs.value (w' := W) (v := .pointer (some ⟨gm, 0, none⟩)) ?_ ⟨hJ, Below.refl _ _, rfl⟩
      simp only [execOp]; go_simp
    · refine Draw.Goes.plain rfl ?_
      have h0 : ρ (.tmp 9) = .pointer (some ⟨gm, 0, none⟩) := hKn.1.get 2 9 rfl rfl
      have c : W.cell? ⟨gm, 0, none⟩ = some (.pointer (some ⟨gl, 0, none⟩)) := hJ.1.m.a.cell _ rfl
      refine Draw.Runs.value (w' := W) (v := .pointer (some ⟨gl, 0, none⟩)) ?_ ⟨hJ, Below.refl _ _, rfl⟩
      simp only [execOp]; go_simp
    · refine Draw.Goes.plain rfl ?_
      exact Draw.Runs.value (w' := W) (v := ρ (.tmp 0)) rfl ⟨hJ, Below.refl _ _, hKn.1.2 0 rfl⟩
    · refine Draw.Goes.plain rfl ?_
      have h0 : ρ (.tmp 2) = .pointer (some ⟨s + 1, 0, none⟩) := hKn.1.2 2 rfl
      have c : W.cell? ⟨s + 1, 0, none⟩ = some (.int .u64 cn) := hJ.1.bc.cell _ rfl
      refine Draw.Runs.value (w' := W) (v := .int .u64 cn) ?_ ⟨hJ, Below.refl _ _, rfl⟩
      simp only [execOp]; go_simp
    · refine Draw.Goes.plain rfl ?_
      have h0 : ρ (.tmp 10) = .pointer (some ⟨gl, 0, none⟩) := hKn.1.get 3 10 rfl rfl
      have h1 : ρ (.tmp 11) = .int .i64 kd := hKn.1.get 4 11 rfl rfl
      have h2 : ρ (.tmp 12) = .int .u64 cn := hKn.1.get 5 12 rfl rfl
      refine Draw.Runs.enter (f := 40) (args := #[.pointer (some ⟨gl, 0, none⟩), .int .i64 kd, .int .u64 cn]) ?_ ((HHD.out W hJ.1.m.b).mono fun e W' ⟨he, hb⟩ => ⟨_, he, ⟨hJ.1.call hb, hJ.2.trans (Below.mono (hb) hJ.2.size)⟩, hb, rfl⟩)
      simp only [execOp]; go_simp
    · refine Draw.Goes.plain rfl ?_
      refine Draw.Runs.value (w' := W.alloc (.cells (pc K.zero nS nS) PT)) (v := .pointer (some ⟨W.heap.size, 0, none⟩)) ?_ ⟨⟨hJ.1.call (bel_alloc _ _), hJ.2.trans ((bel_alloc _ _).mono hJ.2.size)⟩, bel_alloc _ _, W.heap.size, rfl, heap_alloc_new W _, hJ.2.size⟩
      simp only [execOp, pc, K.zero]; go_simp
  · intro u W hJ hf
    obtain ⟨gg6, r6, hb6⟩ : PtrT PT (pc K.zero nS nS) w.heap.size W (u 6) := hf 7 _ 6 (by decide) rfl rfl
    have r13 : u 13 = .agg (pc (m.l.hdr kd cn) nS nS) := hf 6 _ 13 (by decide) rfl rfl
    simp only [List.foldl_cons, List.foldl_nil, List.setIfInBounds_toArray, List.set_cons_succ, List.set_cons_zero, r6, r13]
    have hX1 := hJ.1
    have hB1 := hJ.2
    clear hJ hf
    refine Draw.wpAny_one (i := 8) (by kernel_rfl) rfl rfl ?_
    refine wp_row_none rfl (.tmp 6) (.tmp 13) rfl gg6 (pc (m.l.hdr kd cn) nS nS) rfl rfl (pc K.zero nS nS) hb6.1 (pc_info _ _ _) rfl (pc_all _ slnil) ?_
    refine Draw.wpAny_end (by kernel_rfl) ?_
    have hg6 : Blk (W.setRow gg6 (pc (m.l.hdr kd cn) nS nS)) gg6 (pc (m.l.hdr kd cn) nS nS) PT := setRow_heap _ _ _ _ _ _ hb6.1
    have hB2 : Below w.heap.size w (W.setRow gg6 (pc (m.l.hdr kd cn) nS nS)) := below_setRow hB1 hb6.2 _
    have hX2 := HX0.out.call hB2
    generalize W.setRow gg6 (pc (m.l.hdr kd cn) nS nS) = W2 at *
    have hge6 : w.heap.size ≤ gg6 := hb6.2
    clear hX1 hB1 hb6
    have c3 : W2.cell? ⟨s + 2, 0, none⟩ = some (.int .u64 ow) := hX2.bo.cell _ rfl
    have c2 : W2.cell? ⟨s + 1, 0, none⟩ = some (.int .u64 cn) := hX2.bc.cell _ rfl
    have c5 := hg6.cell (off := 5) _ rfl
    have f5 : W2.frozen? ⟨gg6, 5, none⟩ = false := hg6.free
    have hs6 : s + 4 ≤ gg6 := by omega
    have HS5 := Lib.hid (show ∀ x, x = max ow cn → Blk (W2.setCell ⟨gg6, 5, none⟩ (.int .u64 x)) gg6 (pc (told m.l kd cn ow) nS nS) PT ∧ Bx s gm gl m cn ow v l (W2.setCell ⟨gg6, 5, none⟩ (.int .u64 x)) ∧ Below w.heap.size w (W2.setCell ⟨gg6, 5, none⟩ (.int .u64 x)) by
      rintro x rfl
      exact ⟨hg6.set (off := 5) _, hX2.far hs6 _ _ (fun k e => by have := (HX0.out.own.lt k e).2; omega), hB2.setCell (p := ⟨gg6, 5, none⟩) hge6 _⟩)
    clear hX2 hB2 hg6
    obtain ⟨mx, hmx⟩ : ∃ x, x = max ow cn := ⟨_, rfl⟩
    go_upto_region 1 with fail
    go_cut [] (fun wx => Blk wx gg6 (pc (told m.l kd cn ow) nS nS) PT ∧ Bx s gm gl m cn ow v l wx ∧ Below w.heap.size w wx)
    case first =>
      by_cases hlt : ow < cn
      · have HM := Lib.hid (show cn = max ow cn by omega)
        clear hmx
        go_wp2
        go_meet
        exact HS5.out _ HM.out
      · have HM := Lib.hid (show ow = max ow cn by omega)
        clear hmx
        go_wp2
        go_meet
        exact HS5.out _ HM.out
    case rest =>
    obtain ⟨hg7, hX7, hB7⟩ := hcut
    clear HS5 c3 c2 c5 f5 hmx
    obtain ⟨tk, htk⟩ : ∃ x, x = told m.l kd cn ow := ⟨_, rfl⟩
    rw [← htk] at hg7
    have HTK := Lib.hid htk
    have c4 : wc.cell? ⟨s + 3, 0, none⟩ = some v := hX7.bl.cell _ rfl
    have f4 : wc.frozen? ⟨s + 3, 0, none⟩ = false := hX7.bl.free
    clear htk hc ho
    have hn8 : Blk (wc.alloc (.cells (pc tk nS nS) PT)) wc.heap.size (pc tk nS nS) PT := heap_alloc_new wc _
    have hX8 := hX7.call (bel_alloc wc (.cells (pc tk nS nS) PT))
    have hB8 : Below w.heap.size w (wc.alloc (.cells (pc tk nS nS) PT)) := hB7.alloc hB7.size _
    have hsz8 : (wc.alloc (.cells (pc tk nS nS) PT)).heap.size = wc.heap.size + 1 := by simp
    have hszc := hB7.size
    have hlen1 : l.length + 1 ≤ maxLen := by unfold maxLen; omega
    go_wp2_with (first | (refine load_pk (.tmp 6) gg6 tk _ _ hg7 rfl rfl rfl ?_) | (refine build_pk (.tmp 19) tk rfl rfl rfl ?_) | (at_builtin; refine wpList_append_lies _ rfl (.tmp 18) (.tmp 20) ST rfl (s + 4) PT i0 _ 11 120 Tryd.underlying91 hi hz0 hz1 hz2 rfl (by decide) v l.length (pks l) rfl hX8.own ⟨wc.heap.size, 0, none⟩ 1 1 (pc tk nS nS).toList rfl rfl (World.news_of_block hn8) (pk_one tk) (by decide) hlen1 (by omega) (by omega) _ rfl ?_))
    intro g cap w3 hown3 hgrow hat hlt3
    have hown := hX8.own
    have hX9 := hX8.grown hgrow
    have hB9 : Below (s + 3) w w3 := (hB8.mono (by omega)).grown hgrow (by omega) (fun k e => by have := (hown.lt k e).1; omega)
    have hX10 : Bx s gm gl m cn ow (.slice (some ⟨g, 0, none⟩) (l.length + 1) cap) (l ++ [tk]) (w3.setCell ⟨s + 3, 0, none⟩ (.slice (some ⟨g, 0, none⟩) (l.length + 1) cap)) := Bx.listed hX9 (by rw [List.length_append, pks_app]; exact hown3)
    have hB10 : Below (s + 3) w (w3.setCell ⟨s + 3, 0, none⟩ (.slice (some ⟨g, 0, none⟩) (l.length + 1) cap)) := hB9.setCell (p := ⟨s + 3, 0, none⟩) (Nat.le_refl _) _
    have c4' : w3.cell? ⟨s + 3, 0, none⟩ = some v := hX9.2.2.2.2.2.cell _ rfl
    have f4' : w3.frozen? ⟨s + 3, 0, none⟩ = false := hX9.2.2.2.2.2.free
    have HT := Lib.hid hX10
    have HB := Lib.hid hB10
    clear hX10 hB10 hX9 hB9 hX8 hX7 hown hown3 hgrow hB7 hB8 hg7 hn8
    go_wp2
    go_end0
    exact ⟨rfl, _, HTK.out ▸ HT.out, HB.out⟩
theorem res_slice {fn : Func} {p : Tmp} (h : fn.results = #[.cell p ST]) (tmps : Array Value) (w : World) (g : Nat) (v : Value) (hp : tmps.getD p undef = .pointer (some ⟨g, 0, none⟩)) (hc : w.cell? ⟨g, 0, none⟩ = some v) :
    (results fn tmps).run Tryd.prog w = .ok v w := by
  have hp' : tmps[p]?.getD undef = .pointer (some ⟨g, 0, none⟩) := by simpa using hp
  simp only [results, h]
  go_simp
theorem own_slice {W : World} {B sz n : Nat} {e : TypeId} {v : Value} {xs : List Value} (h : W.ownsRow B e sz v n xs) : ∃ b m c, v = .slice b m c := by
  rcases h.2 with ⟨h1, _⟩ | ⟨g, cap, cur, e1, _⟩
  · exact ⟨_, _, _, h1⟩
  · exact ⟨_, _, _, e1⟩
theorem Bx.mset {s gm gl : Nat} {m m' : M} {cn ow : Nat} {v : Value} {l : List K} {W : World} (h : Bx s gm gl m cn ow v l W) (off : Nat) (u : Value) (hs : (mc m gl).setIfInBounds off u = mc m' gl) (hl : m'.l = m.l) : Bx s gm gl m' cn ow v l (W.setCell ⟨gm, off, none⟩ u) := by
  have h1 := h.lm
  have h2 := h.ll
  exact ⟨⟨hs ▸ h.m.a.set u, by rw [hl]; exact far_blk h.m.b h.m.ne _ _, h.m.ne⟩, h1, h2, far_blk h.bm (by omega) _ _, far_blk h.bc (by omega) _ _, far_blk h.bo (by omega) _ _, far_blk h.bl (by omega) _ _, ownf h.own (by omega) _ _⟩
theorem ownk {W W' : World} {B g sz n : Nat} {e : TypeId} {v : Value} {xs : List Value} (h : W.ownsRow B e sz v n xs) (hk : Kp W.heap.size g W W') (hg : g < B) : W'.ownsRow B e sz v n xs := by
  refine ⟨h.1, ?_⟩
  rcases h.2 with h5 | ⟨b, cap, cur, e1, hb1, hb, hrest⟩
  · exact .inl h5
  · exact .inr ⟨b, cap, cur, e1, hb1, (hk.block b (Array.getElem?_eq_some_iff.1 hb).1 (by omega)).trans hb, hrest⟩
theorem Bx.link {s gm gl : Nat} {m : M} {l' : L} {cn ow : Nat} {v : Value} {l : List K} {W W' : World} (h : Bx s gm gl m cn ow v l W) (hb : Blk W' gl (lc l') LT) (hk : Kp W.heap.size gl W W') : Bx s gm gl { m with l := l' } cn ow v l W' := by
  have h1 := h.lm
  have h2 := h.ll
  exact ⟨⟨(hk.block _ h.m.a.lt h.m.ne).trans h.m.a, hb, h.m.ne⟩, h1, h2, (hk.block _ h.bm.lt (by omega)).trans h.bm, (hk.block _ h.bc.lt (by omega)).trans h.bc, (hk.block _ h.bo.lt (by omega)).trans h.bo, (hk.block _ h.bl.lt (by omega)).trans h.bl, ownk h.own hk (by omega)⟩
set_option maxRecDepth 100000 in
set_option maxHeartbeats 4000000 in
/-- What 'Out' tells. -/
theorem out_any (m : M) (now cn ow gm gl : Nat) (w : World) (h : Mb gm gl m w) (hm : m.wf) (hn : now < 18446744073709551616) (hc : cn < 18446744073709551616) (ho : ow < 18446744073709551616) :
    Calls Tryd.prog 51 #[.pointer (some ⟨gm, 0, none⟩), .int .u64 now, .int .u64 cn, .int .u64 ow] w fun r w' => ∃ v, r = .returned v ∧ Mb gm gl (m.outs now) w' ∧ w'.ownsRow (w.heap.size + 4) PT 11 v (m.out now cn ow).length (pks (m.out now cn ow)) ∧ Kq w.heap.size gm gl w w' := by
  have gmlt := h.a.lt
  have gllt := h.b.lt
  have hX1 : Bx w.heap.size gm gl m cn ow (.slice none 0 0) [] ((((w.alloc (.cells #[.pointer (some ⟨gm, 0, none⟩)] 76)).alloc (.cells #[.int .u64 cn] 22)).alloc (.cells #[.int .u64 ow] 22)).alloc (.cells #[.slice none 0 0] ST)) := by
    have e1 : (w.alloc (.cells #[.pointer (some ⟨gm, 0, none⟩)] 76)).heap.size = w.heap.size + 1 := by simp
    have e2 : ((w.alloc (.cells #[.pointer (some ⟨gm, 0, none⟩)] 76)).alloc (.cells #[.int .u64 cn] 22)).heap.size = w.heap.size + 2 := by simp
    have e3 : (((w.alloc (.cells #[.pointer (some ⟨gm, 0, none⟩)] 76)).alloc (.cells #[.int .u64 cn] 22)).alloc (.cells #[.int .u64 ow] 22)).heap.size = w.heap.size + 3 := by simp
    refine ⟨⟨(((h.a.alloc _).alloc _).alloc _).alloc _, (((h.b.alloc _).alloc _).alloc _).alloc _, h.ne⟩, gmlt, gllt, Blk.alloc (Blk.alloc (Blk.alloc (heap_alloc_new w _) _) _) _, ?_, ?_, ?_, ?_⟩
    · rw [← e1]; exact Blk.alloc (Blk.alloc (heap_alloc_new _ _) _) _
    · rw [← e2]; exact Blk.alloc (heap_alloc_new _ _) _
    · rw [← e3]; exact heap_alloc_new _ _
    · exact ⟨rfl, .inl ⟨rfl, rfl⟩⟩
  have hB1 : Below w.heap.size w ((((w.alloc (.cells #[.pointer (some ⟨gm, 0, none⟩)] 76)).alloc (.cells #[.int .u64 cn] 22)).alloc (.cells #[.int .u64 ow] 22)).alloc (.cells #[.slice none 0 0] ST)) :=
    ((((Below.refl _ w).alloc (Nat.le_refl _) _).alloc (by simp) _).alloc (by simp; omega) _).alloc (by simp; omega) _
  have HX := Lib.hid hX1
  have HB := Lib.hid hB1
  have HM := Lib.hid h
  have HW := Lib.hid hm
  have HIS := Lib.hid (fun W (d : Mb gm gl m W) => mis_any m gm gl W d)
  clear hX1 hB1 h hm
  have c0 : ((((w.alloc (.cells #[.pointer (some ⟨gm, 0, none⟩)] 76)).alloc (.cells #[.int .u64 cn] 22)).alloc (.cells #[.int .u64 ow] 22)).alloc (.cells #[.slice none 0 0] ST)).cell? ⟨w.heap.size, 0, none⟩ = some (.pointer (some ⟨gm, 0, none⟩)) := HX.out.bm.cell _ rfl
  go_enter Tryd.func51, Tryd.ntmps51
  go_upto_region 1 with fail
  change Code.wp _ _ _ _ ((((w.alloc (.cells #[.pointer (some ⟨gm, 0, none⟩)] 76)).alloc (.cells #[.int .u64 cn] 22)).alloc (.cells #[.int .u64 ow] 22)).alloc (.cells #[.slice none 0 0] ST))
  generalize ((((w.alloc (.cells #[.pointer (some ⟨gm, 0, none⟩)] 76)).alloc (.cells #[.int .u64 cn] 22)).alloc (.cells #[.int .u64 ow] 22)).alloc (.cells #[.slice none 0 0] ST)) = w1 at *
  go_wp2_with fail
  refine (HIS.out _ HX.out.m).mono ?_
  rintro r w' ⟨rfl, rfl⟩
  have c3 : w1.cell? ⟨gm, 3, none⟩ = some (.bool m.owes) := HX.out.m.a.cell _ rfl
  have HADD := Lib.hid (fun (kd : Int) (m' : M) (hm : m'.wf) v l W (hX : Bx w.heap.size gm gl m' cn ow v l W) (hl : l.length ≤ 1) => add_any kd m' cn ow w.heap.size gm gl v l W hX hm hl hc ho)
  obtain ⟨l1, hl1⟩ : ∃ x, x = (if m.owes then [told m.l 2 cn ow] else []) := ⟨_, rfl⟩
  have HL1 := Lib.hid hl1
  have HLE1 := Lib.hid (show l1.length ≤ 1 by rw [hl1]; split <;> simp)
  clear hl1 hc ho
  go_upto_if 17 with fail
  go_cut [] (fun wx => ∃ v, Bx w.heap.size gm gl { m with owes := false } cn ow v l1 wx ∧ Kq w.heap.size gm gl w wx)
  case first =>
    cases hw : m.owes with
    | true =>
      have HE := Lib.hid (show [told m.l 2 cn ow] = l1 by rw [HL1.out, hw]; rfl)
      clear hw c3
      go_wp2_with fail
      refine (HADD.out 2 m HW.out _ _ _ HX.out (Nat.zero_le _)).mono ?_
      rintro r w2 ⟨rfl, v2, hX2, hB2⟩
      have c0' : w2.cell? ⟨w.heap.size, 0, none⟩ = some (.pointer (some ⟨gm, 0, none⟩)) := hX2.bm.cell _ rfl
      have c3' := hX2.m.a.cell (off := 3) _ rfl
      have f3' : w2.frozen? ⟨gm, 3, none⟩ = false := hX2.m.a.free
      have HX2 := Lib.hid (hX2.mset (m' := { m with owes := false }) 3 (.bool false) rfl rfl)
      have HK2 := Lib.hid (((kq_below HB.out).trans (kq_below (hB2.mono (by omega)))).trans (kq_kp' (q := gl) ((Kp.refl w.heap.size gm w2).setCell ⟨gm, 3, none⟩ rfl (.bool false))))
      clear hX2 hB2 c0
      go_wp2
      go_meet
      exact ⟨v2, HE.out ▸ HX2.out, HK2.out⟩
    | false =>
      have HE := Lib.hid (show [] = l1 by rw [HL1.out, hw]; rfl)
      have HQ := Lib.hid (show { m with owes := false } = m by rw [← hw])
      clear hw c3
      go_wp2
      go_meet
      exact ⟨_, by rw [HQ.out, ← HE.out]; exact HX.out, kq_below HB.out⟩
  case rest =>
  obtain ⟨v1, hX1, hK1⟩ := hcut
  clear c0 c3 HX HB HM
  have HWL := Lib.hid HW.out.l
  obtain ⟨S, hS⟩ : ∃ S, S = m.says now := ⟨_, rfl⟩
  have HS := Lib.hid hS
  have c0 : wc.cell? ⟨w.heap.size, 0, none⟩ = some (.pointer (some ⟨gm, 0, none⟩)) := hX1.bm.cell _ rfl
  have c1 : wc.cell? ⟨gm, 1, none⟩ = some (.int .i64 m.st) := hX1.m.a.cell _ rfl
  have c2 : wc.cell? ⟨gm, 0, none⟩ = some (.pointer (some ⟨gl, 0, none⟩)) := hX1.m.a.cell _ rfl
  have HX := Lib.hid hX1
  have HK := Lib.hid hK1
  have HDU := Lib.hid (due_any m.l gl now wc hX1.m.b HW.out.l hn)
  clear hX1 hK1 hS
  go_upto_region 7 with fail
  go_cut [35] (fun z wx => z = .bool S ∧ Bx w.heap.size gm gl { m with owes := false } cn ow v1 l1 wx ∧ Kq w.heap.size gm gl w wx)
  case first =>
    by_cases h1 : m.st = 1
    · have t1 : ((m.st : Int) == 1) = true := by rw [h1]; rfl
      have HQ := Lib.hid (show S = m.l.due now by rw [HS.out]; unfold M.says; rw [decide_eq_true h1, Bool.true_and])
      clear h1
      go_wp2_with fail
      refine HDU.out.mono ?_
      rintro r w2 ⟨rfl, hb⟩
      have HX2 := Lib.hid (HX.out.call hb)
      have HK2 := Lib.hid (HK.out.trans (kq_below (hb.mono HK.out.size)))
      clear hb
      go_wp2
      go_meet
      exact ⟨by rw [HQ.out], HX2.out, HK2.out⟩
    · have t1 : ((m.st : Int) == 1) = false := by rw [beq_eq_false_iff_ne]; omega
      have HQ := Lib.hid (show S = false by rw [HS.out]; unfold M.says; rw [decide_eq_false h1, Bool.false_and])
      clear h1
      go_wp2
      go_meet
      exact ⟨by rw [HQ.out], HX.out, HK.out⟩
  case rest =>
  obtain ⟨rfl, hX2, hK2⟩ := hcut
  clear c0 c1 c2 HDU HX HK
  have HX := Lib.hid hX2
  have HK := Lib.hid hK2
  have c0 : wc.cell? ⟨w.heap.size, 0, none⟩ = some (.pointer (some ⟨gm, 0, none⟩)) := hX2.bm.cell _ rfl
  clear hX2 hK2
  go_upto_if 35 with fail
  go_cut [] (fun wx => ∃ v, Bx w.heap.size gm gl (m.outs now) cn ow v (m.out now cn ow) wx ∧ Kq w.heap.size gm gl w wx)
  case first =>
    cases S with
    | true =>
      have HO := Lib.hid (show m.outs now = { { m with owes := false } with l := m.l.sent now } by unfold M.outs; rw [← HS.out]; rfl)
      have HL := Lib.hid (show m.out now cn ow = l1 ++ [told m.l 1 cn ow] by unfold M.out; rw [← HS.out, HL1.out]; rfl)
      have HW0 := Lib.hid (show M.wf { m with owes := false } from ⟨HW.out.l, HW.out.st, HW.out.goal⟩)
      go_wp2_with fail
      refine (HADD.out 1 { m with owes := false } HW0.out _ _ _ HX.out HLE1.out).mono ?_
      rintro r w2 ⟨rfl, v2, hX2, hB2⟩
      have c0' : w2.cell? ⟨w.heap.size, 0, none⟩ = some (.pointer (some ⟨gm, 0, none⟩)) := hX2.bm.cell _ rfl
      have c2' : w2.cell? ⟨gm, 0, none⟩ = some (.pointer (some ⟨gl, 0, none⟩)) := hX2.m.a.cell _ rfl
      have HSE := Lib.hid (sent_any m.l gl now w2 hX2.m.b HWL.out hn)
      have HK2 := Lib.hid (HK.out.trans (kq_below (p := gm) (q := gl) (hB2.mono (Nat.le_add_right _ _))))
      have HX2 := Lib.hid hX2
      clear hX2 hB2 c0
      go_wp2_with fail
      refine HSE.out.mono ?_
      rintro r w3 ⟨rfl, hb3, hk3⟩
      have HX3 := Lib.hid (HX2.out.link hb3 hk3)
      have HK3 := Lib.hid (HK2.out.trans (kq_kp (p := gm) (hk3.mono HK2.out.size)))
      clear hb3 hk3
      go_wp2
      go_meet
      exact ⟨v2, by rw [HO.out, HL.out]; exact HX3.out, HK3.out⟩
    | false =>
      have HO := Lib.hid (show m.outs now = { m with owes := false } by unfold M.outs; rw [← HS.out]; rfl)
      have HL := Lib.hid (show m.out now cn ow = l1 by unfold M.out; rw [← HS.out, HL1.out]; exact List.append_nil _)
      go_wp2
      go_meet
      exact ⟨v1, by rw [HO.out, HL.out]; exact HX.out, HK.out⟩
  case rest =>
  obtain ⟨v3, hX3, hK3⟩ := hcut
  clear c0 HX HK
  obtain ⟨b3, n3, k3, rfl⟩ := own_slice hX3.own
  have c8 : wc.cell? ⟨w.heap.size + 1 + 1 + 1, 0, none⟩ = some (.slice b3 n3 k3) := hX3.bl.cell _ rfl
  have f8 : wc.frozen? ⟨w.heap.size + 1 + 1 + 1, 0, none⟩ = false := hX3.bl.free
  have hb8 : Blk (wc.setCell ⟨w.heap.size + 1 + 1 + 1, 0, none⟩ (.slice b3 n3 k3)) (w.heap.size + 3) #[(.slice b3 n3 k3)] ST := hX3.bl.set (.slice b3 n3 k3)
  have c8' : (wc.setCell ⟨w.heap.size + 1 + 1 + 1, 0, none⟩ (.slice b3 n3 k3)).cell? ⟨w.heap.size + 1 + 1 + 1, 0, none⟩ = some (.slice b3 n3 k3) := hb8.cell _ rfl
  have HF := Lib.hid (show Mb gm gl (m.outs now) (wc.setCell ⟨w.heap.size + 1 + 1 + 1, 0, none⟩ (.slice b3 n3 k3)) ∧ (wc.setCell ⟨w.heap.size + 1 + 1 + 1, 0, none⟩ (.slice b3 n3 k3)).ownsRow (w.heap.size + 4) PT 11 (.slice b3 n3 k3) (m.out now cn ow).length (pks (m.out now cn ow)) ∧ Kq w.heap.size gm gl w (wc.setCell ⟨w.heap.size + 1 + 1 + 1, 0, none⟩ (.slice b3 n3 k3)) from
    ⟨⟨far_blk hX3.m.a (by omega) _ _, far_blk hX3.m.b (by omega) _ _, hX3.m.ne⟩, ownf hX3.own (by omega) _ _, hK3.trans (kq_below ((Below.refl _ wc).setCell (p := ⟨w.heap.size + 1 + 1 + 1, 0, none⟩) (by show w.heap.size ≤ w.heap.size + 1 + 1 + 1; omega) (.slice b3 n3 k3)))⟩)
  clear hX3 hK3 hb8
  go_wp2
  exact bodyPost_ret (res_slice rfl _ _ (w.heap.size + 1 + 1 + 1) _ rfl c8') rfl ⟨_, rfl, HF.out⟩
end Go.Proofs.YtdgbililgkhjfaaDoor.Rs
namespace Go.Proofs.YtdgbililgkhjfaaDoor.Rs
open Go.RowKit Go.Proofs.YtdgbililgkhjfaaDoor.Crc Go.Proofs.YtdgbililgkhjfaaDoor.Codec Go.Proofs.YtdgbililgkhjfaaDoor.Pk Go.Proofs.YtdgbililgkhjfaaDoor.CrcWalk Go.Proofs.YtdgbililgkhjfaaDoor.Frame
open Go.Proofs.YtdgbililgkhjfaaDoor.Lk (range_below)
set_option linter.unusedVariables false
set_option linter.unusedSimpArgs false
abbrev AT := 80
/-- An act. -/
structure Ac where
  what : Nat
  k : K
  bi : Option Addr
  ni : Nat
  ci : Nat
  bp : Option Addr
  np : Nat
  cp : Nat
  now : Nat
  cn : Nat
  ow : Nat
def Ac.vi (x : Ac) : Value := .slice x.bi x.ni x.ci
def Ac.vp (x : Ac) : Value := .slice x.bp x.np x.cp
def Ac.cells (x : Ac) : Array Value := #[.int .u8 x.what, .int .i64 x.k.kind, .int .u8 x.k.player, .int .u64 x.k.epoch, .int .u64 x.k.dest, .int .u64 x.k.count, .int .u64 x.k.own, .int .u64 x.k.first, .slice x.bi x.ni x.ci, .slice x.bp x.np x.cp, .int .u64 x.k.frame, .int .u64 x.k.sum, .int .u64 x.now, .int .u64 x.cn, .int .u64 x.ow]
/-- The numbers are what their types bear; short lists lie in memory. -/
structure Ac.ok (W : World) (x : Ac) : Prop where
  what : x.what < 256
  k : x.k.wf
  now : x.now < 18446744073709551616
  cn : x.cn < 18446744073709551616
  ow : x.ow < 18446744073709551616
  ins : x.ni ≤ 200 → Ins W x.vi x.k.ins
  prs : x.np ≤ 200 → Prs W x.vp x.k.prs
/-- Few inputs and pairs? -/
def Ac.few (x : Ac) : Prop := x.ni ≤ 200 ∧ x.np ≤ 200
instance (x : Ac) : Decidable x.few := by unfold Ac.few; infer_instance
/-- A slice of acts. -/
def Acts (w : World) (v : Value) (xs : List Ac) : Prop := ∃ b c, v = .slice b xs.length c ∧ xs.length ≤ maxLen ∧ ∀ i (h : i < xs.length), ∃ g o, b = some ⟨g, o, none⟩ ∧ g < w.heap.size ∧ w.rangeAt g (o + i * 15) (xs[i]).cells.toList ∧ (xs[i]).ok w
theorem Ac.ok.below {w w' : World} {x : Ac} (h : x.ok w) (hb : Below w.heap.size w w') : x.ok w' := ⟨h.what, h.k, h.now, h.cn, h.ow, fun q => (h.ins q).below hb, fun q => (h.prs q).below hb⟩
theorem Acts.below {w w' : World} {v : Value} {xs : List Ac} (h : Acts w v xs) (hb : Below w.heap.size w w') : Acts w' v xs := by
  obtain ⟨b, c, rfl, hl, hc⟩ := h
  refine ⟨b, c, rfl, hl, fun i hi => ?_⟩
  obtain ⟨g, o, h1, h2, h3, h4⟩ := hc i hi
  exact ⟨g, o, h1, Nat.lt_of_lt_of_le h2 hb.size, range_below h3 h2 hb, h4.below hb⟩
theorem Ac.cells_pk (x : Ac) {w : World} {g o : Nat} (h : w.rangeAt g o x.cells.toList) : w.rangeAt g (o + 1) (pc x.k x.vi x.vp).toList := fun j v hv => by
  have hj : j < 11 := by
    have := (List.getElem?_eq_some_iff.1 hv).1
    exact this
  rw [Nat.add_assoc]
  refine h (1 + j) v ?_
  rw [← hv]
  match j, hj with
  | 0, _ | 1, _ | 2, _ | 3, _ | 4, _ | 5, _ | 6, _ | 7, _ | 8, _ | 9, _ | 10, _ => rfl
set_option maxRecDepth 100000 in
set_option maxHeartbeats 1000000 in
/-- What 'few' answers. -/
theorem fewr_any (v : Value) (xs : List Ac) (w : World) (h : Acts w v xs) :
    Calls Tryd.prog 42 #[v] w fun r w' => r = .returned (.bool (decide (xs.length ≤ 80 ∧ ∀ x ∈ xs, x.few))) ∧ w = w' := by
  obtain ⟨b, c, rfl, hlen, hcell⟩ := h
  obtain ⟨X, hX⟩ : ∃ X, X = decide (xs.length ≤ 80 ∧ ∀ x ∈ xs, x.few) := ⟨_, rfl⟩
  rw [← hX]
  have HX := Lib.hid hX
  have HCL := Lib.hid hcell
  unfold maxLen at hlen
  clear hcell hX
  go_enter Tryd.func42, Tryd.ntmps42
  go_wp2
  go_loop [3] (fun i => ∃ j : Nat, j ≤ xs.length ∧ j ≤ 90 ∧ i = .int .i64 j ∧ ∀ x ∈ xs.take j, x.few) (fun i => xs.length - (intOf i).toNat)
  case atStart => exact ⟨0, Nat.zero_le _, by decide, rfl, by simp⟩
  case round =>
    obtain ⟨j, hj, hj9, rfl, hfew⟩ := hrel
    by_cases hlt : j < xs.length
    · by_cases h90 : j < 90
      · obtain ⟨g, o, rfl, ha, hr, hok⟩ := HCL.out j hlt
        have hc8 : w.cell? ⟨g, o + j * 15 + 1 + 7, none⟩ = some (.slice (xs[j]).bi (xs[j]).ni (xs[j]).ci) := hr 8 _ rfl
        have hc9 : w.cell? ⟨g, o + j * 15 + 1 + 8, none⟩ = some (.slice (xs[j]).bp (xs[j]).np (xs[j]).cp) := hr 9 _ rfl
        have hsn : ∀ y ∈ xs.take (j + 1), y ∈ xs.take j ∨ y = xs[j] := fun y hy => by
          rw [List.take_succ_eq_append_getElem hlt] at hy
          exact (List.mem_append.1 hy).imp id List.mem_singleton.1
        have hmem : xs[j] ∈ xs := List.getElem_mem _
        generalize xs[j] = x at *
        have HSN := Lib.hid hsn
        have HM := Lib.hid hmem
        have HF := Lib.hid hfew
        clear hsn hmem hfew hr hok
        by_cases h1 : x.ni ≤ 200
        · have t1 : decide ((x.ni : Int) > 200) = false := decide_eq_false (by omega)
          by_cases h2 : x.np ≤ 200
          · have t2 : decide ((x.np : Int) > 200) = false := decide_eq_false (by omega)
            go_wp2
            go_round
            case rel => exact ⟨j + 1, by omega, by omega, by go_num, fun y hy => (HSN.out y hy).elim (HF.out y) (fun e => e ▸ ⟨h1, h2⟩)⟩
            case measure => simp [intOf]; omega
          · have t2 : decide ((x.np : Int) > 200) = true := decide_eq_true (by omega)
            go_wp2
            go_ret
            exact ⟨by rw [HX.out, decide_eq_false (fun hh => h2 (hh.2 x HM.out).2)]; rfl, rfl⟩
        · have t1 : decide ((x.ni : Int) > 200) = true := decide_eq_true (by omega)
          go_wp2
          go_ret
          exact ⟨by rw [HX.out, decide_eq_false (fun hh => h1 (hh.2 x HM.out).1)]; rfl, rfl⟩
      · have hno : decide ((xs.length : Int) ≤ 80) = false := decide_eq_false (by omega)
        have HQ := Lib.hid (show X = false from HX.out.trans (decide_eq_false fun hh => by omega))
        clear hfew
        go_wp2
        go_ret
        exact ⟨by rw [HQ.out]; simp, rfl⟩
    · obtain rfl : j = xs.length := by omega
      rw [List.take_length] at hfew
      have HQ := Lib.hid (show X = decide (xs.length ≤ 80) from HX.out.trans (decide_eq_decide.2 ⟨fun hh => hh.1, fun hh => ⟨hh, hfew⟩⟩))
      clear hfew
      go_wp2
      go_ret
      refine ⟨?_, rfl⟩
      rw [HQ.out]
      show Ending.returned (.bool (decide ((xs.length : Int) ≤ 80))) = _
      rw [show decide ((xs.length : Int) ≤ 80) = decide (xs.length ≤ 80) from decide_eq_decide.2 (by omega)]
end Go.Proofs.YtdgbililgkhjfaaDoor.Rs
namespace Go.Proofs.YtdgbililgkhjfaaDoor.Rs
open Go.ChangeShapes Go.WideShapes Go.ChangeAt Go.RowKit Go.Proofs.YtdgbililgkhjfaaDoor.Pk
set_option linter.unusedVariables false
theorem kRact : Tryd.prog.cellsOf AT = 15 := by kernel_rfl
section
variable {H : Type} {enc : TypeId × Value → H} {W : World} {base : Nat} {spare : Nat → Bool} {held : Bool} {n : Nat}
set_option maxRecDepth 100000 in
/-- A packet that came in, as cells. -/
theorem open_pkc {cs : List Value} {y : DataW H × List MemPlace} (hl : cs.length = 11) (hf : DataW.trod enc Tryd.prog W base spare held n PT cs = some y) :
    ∃ (k : K) (b b' : Option Addr) (n n' c c' : Nat), cs = (pc k (.slice b n c) (.slice b' n' c')).toList ∧ k.wf ∧ (n ≤ 200 → Ins W (.slice b n c) k.ins) ∧ (n' ≤ 200 → Prs W (.slice b' n' c') k.prs) := by
  match cs, hl with
  | [c0, c1, c2, c3, c4, c5, c6, c7, c8, c9, c10], _ =>
    obtain ⟨xs, m, _, hx, _, hlen, hg⟩ := DataW.trod_struct Tryd.underlying26 hf
    match xs, hlen with
    | [y0, y1, y2, y3, y4, y5, y6, y7, y8, y9, y10], _ =>
      have g0 : DataW.trod enc Tryd.prog W base spare held m 3 ((([c0, c1, c2, c3, c4, c5, c6, c7, c8, c9, c10] : List Value).drop 0).take (Tryd.prog.cellsOf 3)) = some y0 := hg 0 _ rfl
      rw [kInt] at g0
      have f0 : DataW.trod enc Tryd.prog W base spare held m 3 [c0] = some y0 := g0
      have g1 : DataW.trod enc Tryd.prog W base spare held m 5 ((([c0, c1, c2, c3, c4, c5, c6, c7, c8, c9, c10] : List Value).drop 1).take (Tryd.prog.cellsOf 5)) = some y1 := hg 1 _ rfl
      rw [kU8] at g1
      have f1 : DataW.trod enc Tryd.prog W base spare held m 5 [c1] = some y1 := g1
      have g2 : DataW.trod enc Tryd.prog W base spare held m 22 ((([c0, c1, c2, c3, c4, c5, c6, c7, c8, c9, c10] : List Value).drop 2).take (Tryd.prog.cellsOf 22)) = some y2 := hg 2 _ rfl
      rw [kU64] at g2
      have f2 : DataW.trod enc Tryd.prog W base spare held m 22 [c2] = some y2 := g2
      have g3 : DataW.trod enc Tryd.prog W base spare held m 22 ((([c0, c1, c2, c3, c4, c5, c6, c7, c8, c9, c10] : List Value).drop 3).take (Tryd.prog.cellsOf 22)) = some y3 := hg 3 _ rfl
      rw [kU64] at g3
      have f3 : DataW.trod enc Tryd.prog W base spare held m 22 [c3] = some y3 := g3
      have g4 : DataW.trod enc Tryd.prog W base spare held m 22 ((([c0, c1, c2, c3, c4, c5, c6, c7, c8, c9, c10] : List Value).drop 4).take (Tryd.prog.cellsOf 22)) = some y4 := hg 4 _ rfl
      rw [kU64] at g4
      have f4 : DataW.trod enc Tryd.prog W base spare held m 22 [c4] = some y4 := g4
      have g5 : DataW.trod enc Tryd.prog W base spare held m 22 ((([c0, c1, c2, c3, c4, c5, c6, c7, c8, c9, c10] : List Value).drop 5).take (Tryd.prog.cellsOf 22)) = some y5 := hg 5 _ rfl
      rw [kU64] at g5
      have f5 : DataW.trod enc Tryd.prog W base spare held m 22 [c5] = some y5 := g5
      have g6 : DataW.trod enc Tryd.prog W base spare held m 22 ((([c0, c1, c2, c3, c4, c5, c6, c7, c8, c9, c10] : List Value).drop 6).take (Tryd.prog.cellsOf 22)) = some y6 := hg 6 _ rfl
      rw [kU64] at g6
      have f6 : DataW.trod enc Tryd.prog W base spare held m 22 [c6] = some y6 := g6
      have g7 : DataW.trod enc Tryd.prog W base spare held m 23 ((([c0, c1, c2, c3, c4, c5, c6, c7, c8, c9, c10] : List Value).drop 7).take (Tryd.prog.cellsOf 23)) = some y7 := hg 7 _ rfl
      rw [kIns] at g7
      have f7 : DataW.trod enc Tryd.prog W base spare held m 23 [c7] = some y7 := g7
      have g8 : DataW.trod enc Tryd.prog W base spare held m 24 ((([c0, c1, c2, c3, c4, c5, c6, c7, c8, c9, c10] : List Value).drop 8).take (Tryd.prog.cellsOf 24)) = some y8 := hg 8 _ rfl
      rw [kPrs] at g8
      have f8 : DataW.trod enc Tryd.prog W base spare held m 24 [c8] = some y8 := g8
      have g9 : DataW.trod enc Tryd.prog W base spare held m 22 ((([c0, c1, c2, c3, c4, c5, c6, c7, c8, c9, c10] : List Value).drop 9).take (Tryd.prog.cellsOf 22)) = some y9 := hg 9 _ rfl
      rw [kU64] at g9
      have f9 : DataW.trod enc Tryd.prog W base spare held m 22 [c9] = some y9 := g9
      have g10 : DataW.trod enc Tryd.prog W base spare held m 22 ((([c0, c1, c2, c3, c4, c5, c6, c7, c8, c9, c10] : List Value).drop 10).take (Tryd.prog.cellsOf 22)) = some y10 := hg 10 _ rfl
      rw [kU64] at g10
      have f10 : DataW.trod enc Tryd.prog W base spare held m 22 [c10] = some y10 := g10
      obtain ⟨a0, rfl, l0⟩ := cell_int f0
      obtain ⟨a1, rfl, l1⟩ := cell_u8 f1
      obtain ⟨a2, rfl, l2⟩ := cell_u64 f2
      obtain ⟨a3, rfl, l3⟩ := cell_u64 f3
      obtain ⟨a4, rfl, l4⟩ := cell_u64 f4
      obtain ⟨a5, rfl, l5⟩ := cell_u64 f5
      obtain ⟨a6, rfl, l6⟩ := cell_u64 f6
      obtain ⟨b7, n7, e7, rfl⟩ : ∃ b n e, c7 = .slice b n e := by
        rcases DataW.trod_slice Tryd.underlying23 f7 with ⟨e, _⟩ | ⟨a, len, cap, _, _, _, _, e, _⟩
        · cases e; exact ⟨_, _, _, rfl⟩
        · cases e; exact ⟨_, _, _, rfl⟩
      obtain ⟨m7, s7, l7⟩ := open_ins f7
      obtain ⟨b8, n8, e8, rfl⟩ : ∃ b n e, c8 = .slice b n e := by
        rcases DataW.trod_slice Tryd.underlying24 f8 with ⟨e, _⟩ | ⟨a, len, cap, _, _, _, _, e, _⟩
        · cases e; exact ⟨_, _, _, rfl⟩
        · cases e; exact ⟨_, _, _, rfl⟩
      obtain ⟨m8, s8, l8⟩ := open_prs f8
      obtain ⟨a9, rfl, l9⟩ := cell_u64 f9
      obtain ⟨a10, rfl, l10⟩ := cell_u64 f10
      exact ⟨⟨a0, a1, a2, a3, a4, a5, a6, s7, s8, a9, a10⟩, b7, b8, n7, n8, e7, e8, rfl, ⟨l0, l1, l2, l3, l4, l5, l6, l9, l10⟩, l7, l8⟩
set_option maxRecDepth 100000 in
/-- An act that came in, as cells. -/
theorem open_ract {cs : List Value} {y : DataW H × List MemPlace} (hl : cs.length = 15) (hf : DataW.trod enc Tryd.prog W base spare held n AT cs = some y) : ∃ x : Ac, cs = x.cells.toList ∧ x.ok W := by
  obtain ⟨xs, m, _, hx, _, hlen, hg⟩ := DataW.trod_struct Tryd.underlying80 hf
  match xs, hlen with
  | [y0, y1, y2, y3, y4], _ =>
    have g0 : DataW.trod enc Tryd.prog W base spare held m 5 ((cs.drop 0).take (Tryd.prog.cellsOf 5)) = some y0 := hg 0 _ rfl
    have g1 : DataW.trod enc Tryd.prog W base spare held m PT ((cs.drop 1).take (Tryd.prog.cellsOf PT)) = some y1 := hg 1 _ rfl
    have g2 : DataW.trod enc Tryd.prog W base spare held m 22 ((cs.drop 12).take (Tryd.prog.cellsOf 22)) = some y2 := hg 2 _ rfl
    have g3 : DataW.trod enc Tryd.prog W base spare held m 22 ((cs.drop 13).take (Tryd.prog.cellsOf 22)) = some y3 := hg 3 _ rfl
    have g4 : DataW.trod enc Tryd.prog W base spare held m 22 ((cs.drop 14).take (Tryd.prog.cellsOf 22)) = some y4 := hg 4 _ rfl
    rw [kU8] at g0
    rw [kPk] at g1
    rw [kU64] at g2 g3 g4
    obtain ⟨k, b, b', ni, np, ci, cp, hk, hw, hi, hp⟩ := open_pkc (by rw [List.length_take, List.length_drop, hl]; rfl) g1
    match cs, hl, g0, g1, g2, g3, g4, hk with
    | [c0, c1, c2, c3, c4, c5, c6, c7, c8, c9, c10, c11, c12, c13, c14], _, g0, g1, g2, g3, g4, hk =>
      obtain ⟨a0, rfl, l0⟩ := cell_u8 (show DataW.trod enc Tryd.prog W base spare held m 5 [c0] = some y0 from g0)
      obtain ⟨a2, rfl, l2⟩ := cell_u64 (show DataW.trod enc Tryd.prog W base spare held m 22 [c12] = some y2 from g2)
      obtain ⟨a3, rfl, l3⟩ := cell_u64 (show DataW.trod enc Tryd.prog W base spare held m 22 [c13] = some y3 from g3)
      obtain ⟨a4, rfl, l4⟩ := cell_u64 (show DataW.trod enc Tryd.prog W base spare held m 22 [c14] = some y4 from g4)
      have hk' : [c1, c2, c3, c4, c5, c6, c7, c8, c9, c10, c11] = (pc k (.slice b ni ci) (.slice b' np cp)).toList := hk
      simp only [pc, List.cons.injEq] at hk'
      obtain ⟨rfl, rfl, rfl, rfl, rfl, rfl, rfl, rfl, rfl, rfl, rfl, _⟩ := hk'
      exact ⟨⟨a0, k, b, ni, ci, b', np, cp, a2, a3, a4⟩, rfl, ⟨l0, hw, l2, l3, l4, hi, hp⟩⟩
set_option maxRecDepth 100000 in
/-- A slice of acts that came in. -/
theorem open_racts {r0 : Reach} {b0 : Nat} {v : Value} {d : DataW H} {p : List MemPlace} (hv : Value.okWide Tryd.prog W r0 b0 75 v) (h : DataW.Trod enc Tryd.prog W base spare held 75 v d p) : ∃ xs : List Ac, Acts W v xs := by
  obtain ⟨fuel, hf⟩ := h
  obtain ⟨b, k, c, rfl⟩ := okWide_slice Tryd.underlying75 hv
  have hf' : DataW.trod enc Tryd.prog W base spare held fuel 75 [.slice b k c] = some (d, p) := hf
  rcases DataW.trod_slice Tryd.underlying75 hf' with ⟨e, _⟩ | ⟨a, len, cap, elems, rest, m, _, e, hx, _, h1, h2, h3, hg, _⟩
  · cases e
    exact ⟨[], none, 0, rfl, Nat.zero_le _, fun i hi => absurd hi (Nat.not_lt_zero _)⟩
  · cases e
    rw [kRact] at hg
    have key : ∀ i, i < k → ∃ x : Ac, x.ok W ∧ ∀ j u, x.cells.toList[j]? = some u → W.cell? ((a.add (i * 15)).add j) = some u := fun i hi => by
      have hh := hg i hi
      have he : elems[i]? = some elems[i] := List.getElem?_eq_getElem (by omega)
      rw [he] at hh
      obtain ⟨cs, hc, ht⟩ := Option.bind_eq_some_iff.1 hh
      obtain ⟨_, hl, hcc⟩ := World.cells?_some hc
      obtain ⟨x, rfl, hok⟩ := open_ract hl ht
      refine ⟨x, hok, fun j u hu => ?_⟩
      have hj : j < 15 := (List.getElem?_eq_some_iff.1 hu).1
      exact (hcc j hj).trans hu
    have hch : ∃ f : Nat → Ac, ∀ i, i < k → (f i).ok W ∧ ∀ j u, (f i).cells.toList[j]? = some u → W.cell? ((a.add (i * 15)).add j) = some u :=
      ⟨fun i => if hi : i < k then (key i hi).choose else ⟨0, K.zero, none, 0, 0, none, 0, 0, 0, 0, 0⟩, fun i hi => by simp only [hi, dif_pos]; exact (key i hi).choose_spec⟩
    obtain ⟨f, hf⟩ := hch
    refine ⟨(List.range k).map f, some a, c, by simp, by rw [List.length_map, List.length_range]; exact Nat.le_trans h1 h2, fun i hi => ?_⟩
    have hik : i < k := by simpa using hi
    obtain ⟨hok, hcell⟩ := hf i hik
    have h00 := (hf 0 (by omega)).2 0 (.int .u8 (f 0).what) rfl
    have hs := World.cell?_spot h00
    have ha : a = ⟨a.block, a.off, none⟩ := by
      obtain ⟨b, o, s⟩ := a
      cases s with
      | none => rfl
      | some s => simp [Addr.add] at hs
    have hlt : a.block < W.heap.size := by
      have := World.block_lt_of_cell? W _ h00
      rw [ha, add_at, add_at] at this
      exact this
    refine ⟨a.block, a.off, by rw [← ha], hlt, fun j u hu => ?_, ?_⟩
    · simp only [List.getElem_map, List.getElem_range] at hu
      have hc := hcell j u hu
      rw [ha, add_at, add_at] at hc
      exact hc
    · simp only [List.getElem_map, List.getElem_range]
      exact hok
end
end Go.Proofs.YtdgbililgkhjfaaDoor.Rs
namespace Go.Proofs.YtdgbililgkhjfaaDoor.Rs
open Go.RowKit Go.Proofs.YtdgbililgkhjfaaDoor.Crc Go.Proofs.YtdgbililgkhjfaaDoor.Codec Go.Proofs.YtdgbililgkhjfaaDoor.Pk Go.Proofs.YtdgbililgkhjfaaDoor.CrcWalk Go.Proofs.YtdgbililgkhjfaaDoor.Frame Go.Proofs.YtdgbililgkhjfaaDoor.Lk
set_option linter.unusedVariables false
set_option linter.unusedSimpArgs false
/-- Packets without lists lie in memory. -/
def Pks (W : World) (v : Value) (l : List K) : Prop := ∃ b c, v = .slice b l.length c ∧ ∀ i (h : i < l.length), ∃ g, b = some ⟨g, 0, none⟩ ∧ g < W.heap.size ∧ W.rangeAt g (i * 11) (pc l[i] nS nS).toList
theorem pks_at (l : List K) (i : Nat) (h : i < l.length) (j : Nat) (hj : j < 11) : (pks l)[i * 11 + j]? = (pc l[i] nS nS).toList[j]? := by
  induction l generalizing i with
  | nil => exact absurd h (Nat.not_lt_zero _)
  | cons k t ih =>
    have e : pks (k :: t) = (pc k nS nS).toList ++ pks t := by unfold pks; rw [List.flatMap_cons]
    have h11 : (pc k nS nS).toList.length = 11 := rfl
    rw [e]
    match i with
    | 0 => rw [List.getElem?_append_left (by omega), Nat.zero_mul, Nat.zero_add]; rfl
    | i + 1 =>
      rw [List.getElem?_append_right (by omega), h11, show (i + 1) * 11 + j - 11 = i * 11 + j by omega]
      exact ih i (by simpa using h)
theorem Pks.of_own {W : World} {B : Nat} {v : Value} {l : List K} (h : W.ownsRow B PT 11 v l.length (pks l)) : Pks W v l := by
  rcases h.2 with ⟨rfl, h0⟩ | ⟨g, cap, cur, rfl, _, hg, _, _, _, ht⟩
  · exact ⟨none, 0, by rw [h0], fun i hi => absurd hi (by omega)⟩
  · refine ⟨some ⟨g, 0, none⟩, cap, rfl, fun i hi => ⟨g, rfl, (Array.getElem?_eq_some_iff.1 hg).1, fun j u hu => ?_⟩⟩
    have hj : j < 11 := (List.getElem?_eq_some_iff.1 hu).1
    have h1 : (pks l)[i * 11 + j]? = some u := (pks_at l i hi j hj).trans hu
    rw [← ht, List.getElem?_take_of_lt (by omega)] at h1
    rw [cell_of_row W g (i * 11 + j) cur PT (0, 0) hg]
    rw [← Array.getElem?_toList]; exact h1
theorem Pks.below {W W' : World} {v : Value} {l : List K} (h : Pks W v l) (hb : Below W.heap.size W W') : Pks W' v l := by
  obtain ⟨b, c, rfl, hc⟩ := h
  refine ⟨b, c, rfl, fun i hi => ?_⟩
  obtain ⟨g, h1, h2, h3⟩ := hc i hi
  exact ⟨g, h1, Nat.lt_of_lt_of_le h2 hb.size, range_below h3 h2 hb⟩
set_option maxRecDepth 100000 in
set_option maxHeartbeats 1000000 in
/-- What 'told' answers. -/
theorem told_any (v : Value) (l : List K) (ks : List Int) (g c : Nat) (w : World) (hv : Pks w v l) (hk : ∀ i (h : i < ks.length), w.cell? ⟨g, i, none⟩ = some (.int .i64 ks[i])) (hl : l.length ≤ 2) (hg : g < w.heap.size) :
    Calls Tryd.prog 52 #[v, .slice (some ⟨g, 0, none⟩) ks.length c] w fun r w' => r = .returned (.bool (decide (l.map (·.kind) = ks))) ∧ Below w.heap.size w w' := by
  obtain ⟨b, cc, rfl, hc⟩ := hv
  have HC := Lib.hid hc
  have HK := Lib.hid hk
  obtain ⟨X, hX⟩ : ∃ X, X = decide (l.map (·.kind) = ks) := ⟨_, rfl⟩
  rw [← hX]
  have HX := Lib.hid hX
  clear hc hk hX
  by_cases he : l.length = ks.length
  case neg =>
    have t1 : ((l.length : Int) != (ks.length : Int)) = true := by rw [bne_iff_ne]; omega
    have HQ := Lib.hid (show X = false by rw [HX.out]; exact decide_eq_false (fun hh => he (by rw [← hh, List.length_map])))
    go_enter Tryd.func52, Tryd.ntmps52
    go_wp2
    go_ret
    exact ⟨by rw [HQ.out]; rfl, Below.refl _ _⟩
  case pos =>
  have t1 : ((l.length : Int) != (ks.length : Int)) = false := by rw [bne_eq_false_iff_eq]; omega
  go_enter Tryd.func52, Tryd.ntmps52
  go_wp2
  go_loopw [5] (fun i wr => ∃ j : Nat, j ≤ l.length ∧ i = .int .i64 j ∧ (l.take j).map (·.kind) = ks.take j ∧ Below w.heap.size w wr) (fun i _ => l.length - (intOf i).toNat)
  case atStart => exact ⟨0, Nat.zero_le _, rfl, by simp, Below.refl _ _⟩
  case round =>
    obtain ⟨j, hj, rfl, ht, hB⟩ := hrel
    by_cases hlt : j < l.length
    · obtain ⟨gg, rfl, ha, hr⟩ := HC.out j hlt
      have hlk : j < ks.length := by omega
      have ck : wr.cell? ⟨g, j, none⟩ = some (.int .i64 ks[j]) := (hB.cell (p := ⟨g, j, none⟩) hg).trans (HK.out j hlk)
      have cl : wr.cell? ⟨gg, j * 11, none⟩ = some (.int .i64 l[j].kind) := (range_below hr ha hB) 0 _ rfl
      have HS := Lib.hid (show l[j].kind = ks[j] → (l.take (j + 1)).map (·.kind) = ks.take (j + 1) by
        intro e
        rw [List.take_succ_eq_append_getElem hlt, List.take_succ_eq_append_getElem hlk, List.map_append, ht, ← e]
        rfl)
      have HN := Lib.hid (show l[j].kind ≠ ks[j] → X = false by
        intro e
        rw [HX.out]
        refine decide_eq_false fun hh => e ?_
        have h1 : (l.map (·.kind))[j]? = ks[j]? := by rw [hh]
        rw [List.getElem?_map, List.getElem?_eq_getElem hlt, List.getElem?_eq_getElem hlk] at h1
        exact Option.some.inj h1)
      generalize l[j].kind = a at *
      generalize ks[j] = d at *
      clear hr ht
      by_cases hq : a = d
      · have t2 : ((a : Int) != d) = false := by rw [bne_eq_false_iff_eq]; exact hq
        go_wp2
        go_region
        go_wp2
        go_roundw
        case rel => exact ⟨j + 1, by omega, by go_num, HS.out hq, hB.drew⟩
        case measure => simp [intOf]; omega
      · have t2 : ((a : Int) != d) = true := by rw [bne_iff_ne]; exact hq
        go_wp2
        go_region
        go_wp2
        go_ret
        exact ⟨by rw [HN.out hq]; rfl, hB.drew⟩
    · obtain rfl : j = l.length := by omega
      rw [List.take_length, List.take_of_length_le (by omega)] at ht
      have HQ := Lib.hid (show X = true by rw [HX.out]; exact decide_eq_true ht)
      go_wp2
      go_ret
      exact ⟨by rw [HQ.out]; rfl, hB⟩
/-- A machine of the call's own. -/
structure Mv (w : World) (gm gl : Nat) (m : M) (W : World) : Prop where
  m : Mb gm gl m W
  bel : Below w.heap.size w W
  om : w.heap.size ≤ gm
  ol : w.heap.size ≤ gl
theorem Mv.call {w W W' : World} {gm gl : Nat} {m : M} (h : Mv w gm gl m W) (hb : Below W.heap.size W W') : Mv w gm gl m W' :=
  ⟨h.m.call hb, h.bel.trans (hb.mono h.bel.size), h.om, h.ol⟩
theorem Mv.upon {w W W' : World} {gm gl : Nat} {m m' : M} (h : Mv w gm gl m W) (hm : Mb gm gl m' W') (hk : Kq W.heap.size gm gl W W') : Mv w gm gl m' W' :=
  ⟨hm, h.bel.trans (Kq.bel hk h.bel.size h.om h.ol), h.om, h.ol⟩
theorem own_len {W : World} {B sz n : Nat} {e : TypeId} {v : Value} {xs : List Value} (h : W.ownsRow B e sz v n xs) : ∃ b c, v = .slice b n c := by
  rcases h.2 with ⟨h1, h2⟩ | ⟨g, cap, cur, e1, _⟩
  · exact ⟨none, 0, by rw [h1, h2]⟩
  · exact ⟨_, _, e1⟩
theorem load_pk_midg {ops : Array Oper} {rest : List Oper} {op : Oper} {a : Act} {w : World} {Q : Exit → Act → World → Prop} (x : Operand) (b o : Nat) (k : K) (vi vp : Value) (hc : w.rangeAt b o (pc k vi vp).toList) (hgd : Region.wanted op (yielded ops a.tmps) = true) (ho : op.op = .load PT x)
    (hx : a.eval x = .pointer (some ⟨b, o, none⟩)) (h : wpList Tryd.prog ops Q rest (a.put op.dst (.agg (pc k vi vp))) w) : wpList Tryd.prog ops Q (op :: rest) a w := by
  unfold wpList
  rw [if_pos hgd]
  exact .inl (wp_load_mid PT x ho b o hx (pc k vi vp).toList _ hc Tryd.underlying26 rfl (pc_info k vi vp) h)
def tk1 : K := ⟨1, 0, 2, 0, 3, 4, 0, [], [], 0, 0⟩
abbrev m1 : M := M.make 0 2 1
theorem m1_wf : m1.wf := M.make_wf (by decide) (by decide) (by decide) (by decide)
set_option maxRecDepth 100000 in
set_option maxHeartbeats 1000000 in
/-- The law's 'awake'. -/
theorem awake_any (w : World) : Calls Tryd.prog 43 #[] w fun r w' => r = .returned (.bool true) ∧ Below w.heap.size w w' := by
  have w2 : (m1.outs 1).wf := M.outs_wf m1_wf (by decide)
  have HN := Lib.hid (fun W => mnew_yes 0 2 1 W (by decide) (by decide))
  have HS := Lib.hid (fun gm gl W (d : Mv w gm gl m1 W) => mstate_any _ gm gl W d.m)
  rw [show m1.st = 1 from rfl] at HS
  have HO := Lib.hid (fun gm gl W (d : Mv w gm gl m1 W) => out_any _ 1 3 4 gm gl W d.m m1_wf (by decide) (by decide) (by decide))
  rw [show m1.out 1 3 4 = [tk1] from rfl] at HO
  have HP := Lib.hid (fun gm gl W (d : Mv w gm gl (m1.outs 1) W) => out_any _ 1 3 4 gm gl W d.m w2 (by decide) (by decide) (by decide))
  rw [show (m1.outs 1).out 1 3 4 = [] from rfl] at HP
  have HSM := Lib.hid (fun W => same_any tk1 tk1 nS nS nS nS W (ins_nil _) (prs_nil _) (ins_nil _) (prs_nil _))
  rw [decide_eq_true rfl] at HSM
  clear w2
  go_enter Tryd.func43, Tryd.ntmps43
  go_wp2_with fail
  refine (HN.out _).mono ?_
  rintro r w1 ⟨gm, gl, rfl, hb, hbel, h1, h2⟩
  have d1 : Mv w gm gl m1 w1 := ⟨hb, hbel, h1, h2⟩
  clear hb hbel h1 h2
  go_wp2_with fail
  refine (HS.out _ _ _ d1).mono ?_
  rintro r w' ⟨rfl, rfl⟩
  go_wp2_with fail
  refine (HO.out _ _ _ d1).mono ?_
  rintro r w2 ⟨v, rfl, hb, hown, hk⟩
  have d2 := d1.upon hb hk
  have hp := Pks.of_own hown
  obtain ⟨b, c, hv, hc⟩ := id hp
  obtain ⟨g, rfl, hg, hr⟩ := hc 0 (by decide)
  obtain rfl : v = .slice (some ⟨g, 0, none⟩) 1 c := hv
  clear hb hown hk d1 hc
  have hn3 : Blk (w2.alloc (.cells #[.int .i64 1] 3)) w2.heap.size #[.int .i64 1] 3 := heap_alloc_new w2 _
  have HTL := Lib.hid (told_any _ [tk1] [1] w2.heap.size 1 _ (hp.below (bel_alloc w2 (.cells #[.int .i64 1] 3))) (fun i hi => by
    have : i = 0 := by simp at hi; exact hi
    subst this
    exact hn3.cell _ rfl) (by decide) hn3.lt)
  rw [show decide ([tk1].map (·.kind) = [1]) = true from rfl] at HTL
  have HD3 := Lib.hid (d2.call (bel_alloc w2 (.cells #[.int .i64 1] 3)))
  have HR3 := Lib.hid (range_below hr hg (bel_alloc w2 (.cells #[.int .i64 1] 3)))
  have hg3 : g < (w2.alloc (.cells #[.int .i64 1] 3)).heap.size := by simp; omega
  clear d2 hp hr hn3
  go_wp2_with fail
  refine HTL.out.mono ?_
  rintro r w3 ⟨rfl, hb⟩
  have d3 := HD3.out.call hb
  have hr3 := range_below HR3.out hg3 hb
  rw [Nat.zero_mul] at hr3
  clear hb hg3
  go_wp2_with (refine load_pk_midg (.tmp 18) g 0 tk1 nS nS hr3 rfl rfl rfl ?_)
  refine (HSM.out _).mono ?_
  rintro r w4 ⟨rfl, hb⟩
  have d4 := d3.call hb
  clear hb d3 hr3
  go_wp2_with fail
  refine (HP.out _ _ _ d4).mono ?_
  rintro r w5 ⟨v5, rfl, hb, hown, hk⟩
  have HD5 := Lib.hid (d4.upon hb hk).bel
  obtain ⟨b5, c5, rfl⟩ := own_len hown
  clear hb hown hk d4
  go_wp2
  go_ret
  exact ⟨rfl, HD5.out⟩
end Go.Proofs.YtdgbililgkhjfaaDoor.Rs
namespace Go.Proofs.YtdgbililgkhjfaaDoor.Rs
open Go.RowKit Go.Proofs.YtdgbililgkhjfaaDoor.Crc Go.Proofs.YtdgbililgkhjfaaDoor.Codec Go.Proofs.YtdgbililgkhjfaaDoor.Pk Go.Proofs.YtdgbililgkhjfaaDoor.CrcWalk Go.Proofs.YtdgbililgkhjfaaDoor.Frame
open Go.Proofs.YtdgbililgkhjfaaDoor.Lk (L lc range_below load_pk_mid blk_range far_blk epoch_any)
set_option linter.unusedVariables false
set_option linter.unusedSimpArgs false
/-- The machine behind an act. -/
def M.act (m : M) (x : Ac) : M := if x.what % 3 = 0 then (m.on x.k).1 else if x.what % 3 = 1 then m.look x.cn else m
/-- What is known of a machine of epoch o. -/
structure Kn (o : Nat) (m : M) : Prop where
  own : m.l.own = o
  st : m.st ≠ 1 ↔ m.l.met = true
  ep : m.l.met = true → m.l.epoch ≠ 0
theorem on_two (m : M) (k : K) : (m.on k).2 = (m.l.acc k).2 ∧ ((m.l.acc k).2 ≠ 0 → (m.on k).1 = m) ∧ ((m.l.acc k).2 = 0 → (m.on k).1 = m.took k (m.l.told k) ∧ k.epoch ≠ 0 ∧ (m.l.acc k).1 = m.l.told k) := by
  unfold M.on
  refine ⟨?_, ?_, ?_⟩
  · split
    · next h => exact h.symm
    · rfl
  · intro h; rw [if_neg h]
  · intro h
    rw [if_pos h]
    unfold L.acc at h ⊢
    split at h
    · next h1 => exact absurd h (show ¬ (4 : Int) = 0 by decide)
    · next h1 =>
      split at h
      · next h2 => exact absurd h (show ¬ (12 : Int) = 0 by decide)
      · next h2 =>
        rw [if_neg h1, if_neg h2]
        have h3 : k.may ∧ k.only = k := Classical.not_not.1 fun h3 => h1 (.inl h3)
        exact ⟨rfl, h3.1.2.2.2.1, rfl⟩
theorem Kn.on {o : Nat} {m : M} (h : Kn o m) (k : K) : Kn o (m.on k).1 := by
  by_cases h0 : (m.l.acc k).2 = 0
  · obtain ⟨h1, h2, _⟩ := (on_two m k).2.2 h0
    rw [h1]
    have hs := h.st
    refine ⟨h.own, ?_, ?_⟩
    · show (if m.met1 (m.l.told k) = true then 2 else m.st1 (m.l.told k)) ≠ 1 ↔ (m.l.told k).met = true
      unfold M.met1 M.st1
      have e1 : (m.l.told k).epoch = max m.l.epoch k.epoch := rfl
      have e2 : (m.l.told k).met = ((!decide (m.l.epoch < k.epoch) && m.l.met) || decide (k.dest = m.l.own)) := rfl
      by_cases hh : (m.l.told k).epoch = m.l.epoch
      · rw [if_pos hh]
        rw [e1] at hh
        rw [decide_eq_false (by omega : ¬ m.l.epoch < k.epoch), Bool.not_false, Bool.true_and] at e2
        generalize (m.l.told k).met = b at *
        cases b with
        | true =>
          by_cases h9 : m.st = 1
          · simp [h9]
          · simp [h9]
        | false =>
          have hmf : m.l.met = false := by
            cases hq : m.l.met with
            | true => rw [hq] at e2; simp at e2
            | false => rfl
          have h9 : m.st = 1 := by
            by_cases h9 : m.st = 1
            · exact h9
            · have h8 := hs.1 h9
              rw [hmf] at h8
              cases h8
          simp [h9]
      · rw [if_neg hh]
        generalize (m.l.told k).met = b at *
        cases b <;> simp
    · intro _
      show max m.l.epoch k.epoch ≠ 0
      omega
  · rw [(on_two m k).2.1 h0]; exact h
theorem Kn.look {o : Nat} {m : M} (h : Kn o m) (c : Nat) : Kn o (m.look c) := by
  have hs := h.st
  refine ⟨h.own, ?_, h.ep⟩
  show (if m.st = 2 ∧ m.goal ≤ c then 3 else m.st) ≠ 1 ↔ m.l.met = true
  rw [← hs]
  split
  · next h1 => constructor <;> intro _ <;> omega
  · exact Iff.rfl
theorem Kn.act {o : Nat} {m : M} (h : Kn o m) (x : Ac) : Kn o (m.act x) := by
  unfold M.act
  split
  · exact h.on _
  · split
    · exact h.look _
    · exact h
/-- What the law's own word 'met' becomes. -/
theorem met_step {o : Nat} {m : M} (h : Kn o m) (k : K) (h0 : (m.l.acc k).2 = 0) :
    (m.on k).1.l.met = ((if (m.on k).1.l.epoch ≠ m.l.epoch then false else m.l.met) || decide (k.dest = o)) := by
  obtain ⟨h1, h2, _⟩ := (on_two m k).2.2 h0
  rw [h1, ← h.own]
  show ((!decide (m.l.epoch < k.epoch) && m.l.met) || decide (k.dest = m.l.own)) = ((if max m.l.epoch k.epoch ≠ m.l.epoch then false else m.l.met) || decide (k.dest = m.l.own))
  congr 1
  by_cases hh : m.l.epoch < k.epoch
  · rw [decide_eq_true hh, if_pos (by omega)]; rfl
  · rw [decide_eq_false hh, if_neg (by omega)]; rfl
theorem M.act_wf {m : M} {x : Ac} {w : World} (h : m.wf) (hx : x.ok w) : (m.act x).wf := by
  unfold M.act
  split
  · exact M.on_wf h hx.k
  · split
    · exact M.look_wf h
    · exact h
/-- Under way: the machine, and an act's own copy. -/
structure Ra (w : World) (gm gl ga : Nat) (m : M) (x : Ac) (W : World) : Prop where
  v : Mv w gm gl m W
  x : Blk W ga x.cells AT
  lm : gm < ga
  ll : gl < ga
theorem Ra.call {w W W' : World} {gm gl ga : Nat} {m : M} {x : Ac} (h : Ra w gm gl ga m x W) (hb : Below W.heap.size W W') : Ra w gm gl ga m x W' :=
  ⟨h.v.call hb, (hb.block _ h.x.lt).trans h.x, h.lm, h.ll⟩
theorem Ra.upon {w W W' : World} {gm gl ga : Nat} {m m' : M} {x : Ac} (h : Ra w gm gl ga m x W) (hm : Mb gm gl m' W') (hk : Kq W.heap.size gm gl W W') : Ra w gm gl ga m' x W' :=
  ⟨h.v.upon hm hk, Kq.blk hk h.x h.x.lt (by have := h.lm; omega) (by have := h.ll; omega), h.lm, h.ll⟩
def ac0 : Ac := ⟨0, K.zero, none, 0, 0, none, 0, 0, 0, 0, 0⟩
theorem ract_info (c : Ac) : (Tryd.prog.info? AT).map (·.size) = some c.cells.size := by kernel_rfl
theorem ract_all (c : Ac) : c.cells.all (·.oneCell') = true := by
  simp [Ac.cells, Value.oneCell']
theorem store_ract {ops : Array Oper} {rest : List Oper} {op : Oper} {a : Act} {w : World} {Q : Exit → Act → World → Prop} (x y : Operand) (g : Nat) (c0 c : Ac) (hb : Blk w g c0.cells AT) (hgd : op.guard = none) (ho : op.op = .store AT x y)
    (hd : op.dst = none) (hx : a.eval x = .pointer (some ⟨g, 0, none⟩)) (hy : a.eval y = .agg c.cells) (h : wpList Tryd.prog ops Q rest a (w.setRow g c.cells)) : wpList Tryd.prog ops Q (op :: rest) a w :=
  wpList_store_rowTo hgd AT x y ho hd g c.cells hx hy AT c0.cells hb (ract_info c) rfl (ract_all c) h
theorem load_ract {ops : Array Oper} {rest : List Oper} {op : Oper} {a : Act} {w : World} {Q : Exit → Act → World → Prop} (x : Operand) (b o : Nat) (c : Ac) (hc : w.rangeAt b o c.cells.toList) (hgd : op.guard = none) (ho : op.op = .load AT x)
    (hx : a.eval x = .pointer (some ⟨b, o, none⟩)) (h : wpList Tryd.prog ops Q rest (a.put op.dst (.agg c.cells)) w) : wpList Tryd.prog ops Q (op :: rest) a w :=
  wpList_load_mid hgd AT x ho b o hx c.cells.toList _ hc Tryd.underlying80 rfl (ract_info c) h
set_option maxRecDepth 100000 in
set_option maxHeartbeats 16000000 in
/-- P27.5: the law ResumeKnows. -/
theorem knows_law (e : Nat) (v : Value) (xs : List Ac) (w : World) (he : e < 18446744073709551616) (hx : Acts w v xs) (hT : Tab w) :
    Calls Tryd.prog 12 #[.int .u64 e, v] w fun r w' => r = .returned (.bool true) ∧ Below w.heap.size w w' := by
  have HA := Lib.hid (fun W => awake_any W)
  have HFW := Lib.hid (fun W (h : Below w.heap.size w W) => fewr_any v xs W (hx.below h))
  have HTT := Lib.hid hT
  have HX := Lib.hid hx
  have HN1 := Lib.hid (fun W => mnew_yes 0 1 2 W (by decide) (by decide))
  have HNE := Lib.hid (fun W (h : 1 ≤ e) => mnew_yes 0 e 2 W ⟨by decide, h, by decide, by decide⟩ he)
  obtain ⟨o, ho⟩ : ∃ o, o = max 1 e := ⟨_, rfl⟩
  obtain ⟨m0, hm0⟩ : ∃ m0, m0 = M.make 0 o 2 := ⟨_, rfl⟩
  have hw0 : m0.wf := by rw [hm0, ho]; exact M.make_wf (by decide) (by omega) (by decide) (by decide)
  have hk0 : Kn o m0 := by rw [hm0]; exact ⟨rfl, ⟨fun h => absurd rfl h, fun h => by cases h⟩, fun h => by cases h⟩
  have HM0 := Lib.hid hm0
  have HW0 := Lib.hid hw0
  have HK0 := Lib.hid hk0
  have HO := Lib.hid ho
  have HM1 := Lib.hid (show m0.l.met = false by rw [hm0]; rfl)
  clear hT hx hm0 hw0 hk0 ho
  go_enter Tryd.func12, Tryd.ntmps12
  go_upto_region 1 with fail
  go_cut [5] (fun z wx => ∃ gm gl, z = .pointer (some ⟨gm, 0, none⟩) ∧ Mv w gm gl m0 wx)
  case first =>
    by_cases h0 : 1 < e
    · go_wp2_with fail
      refine (HNE.out _ (Nat.le_of_lt h0)).mono ?_
      rintro r w1 ⟨gm, gl, rfl, hb, hbel, h1, h2⟩
      have HQ := Lib.hid (show Mv w gm gl m0 w1 from ⟨by rw [HM0.out, HO.out, Nat.max_eq_right (Nat.le_of_lt h0)]; exact hb, hbel, h1, h2⟩)
      clear hb hbel h1 h2
      go_wp2
      go_meet
      exact ⟨gm, gl, rfl, HQ.out⟩
    · go_wp2_with fail
      refine (HN1.out _).mono ?_
      rintro r w1 ⟨gm, gl, rfl, hb, hbel, h1, h2⟩
      have HQ := Lib.hid (show Mv w gm gl m0 w1 from ⟨by rw [HM0.out, HO.out, Nat.max_eq_left (Nat.le_of_not_lt h0)]; exact hb, hbel, h1, h2⟩)
      clear hb hbel h1 h2
      go_wp2
      go_meet
      exact ⟨gm, gl, rfl, HQ.out⟩
  case rest =>
  obtain ⟨gm, gl, rfl, hL0⟩ := hcut
  clear HN1 HNE HM0
  go_wp2_with fail
  refine (HFW.out _ hL0.bel).mono ?_
  rintro r w' ⟨rfl, rfl⟩
  by_cases hf : xs.length ≤ 80 ∧ ∀ x ∈ xs, x.few
  case neg =>
    rw [decide_eq_false hf]
    have hB := hL0.bel
    clear hf hL0
    go_wp2_with fail
    refine (HA.out _).mono ?_
    rintro r w3 ⟨rfl, hb⟩
    have hB3 := hB.trans (hb.mono hB.size)
    clear hb hB
    go_wp2
    go_ret
    exact ⟨rfl, hB3⟩
  case pos =>
  rw [decide_eq_true hf]
  have hl80 := hf.1
  have HFE := Lib.hid hf.2
  obtain ⟨b, c, rfl, hlen, hcell⟩ := id HX.out
  have HCL := Lib.hid hcell
  unfold maxLen at hlen
  clear hf hcell HFW HX
  go_wp2_with fail
  go_loopw [6, 7] (fun z i wr => ∃ (j : Nat) (m : M), j ≤ xs.length ∧ z = .bool m.l.met ∧ i = .int .i64 j ∧ m.wf ∧ Kn o m ∧ Mv w gm gl m wr) (fun _ i _ => xs.length - (intOf i).toNat)
  case atStart => exact ⟨0, m0, Nat.zero_le _, by rw [HM1.out], rfl, HW0.out, HK0.out, hL0⟩
  case round =>
    obtain ⟨j, m, hj, rfl, rfl, hm, hkn, hL⟩ := hrel
    by_cases hlt : j < xs.length
    · obtain ⟨gb, ob, rfl, ha, hr, hok⟩ := HCL.out j hlt
      have hfe := HFE.out xs[j] (List.getElem_mem _)
      generalize xs[j] = x at *
      have HL := Lib.hid hL
      have HMW := Lib.hid hm
      have HKN := Lib.hid hkn
      have HOK := Lib.hid hok
      have HFX := Lib.hid hfe
      have HR := Lib.hid (range_below hr ha hL.bel)
      have h8 : Blk (wr.alloc (.cells ac0.cells AT)) wr.heap.size ac0.cells AT := heap_alloc_new wr _
      have H8 := Lib.hid h8
      clear hL hm hkn hok hfe hr h8
      go_upto_region 8 with fail
      go_cut [8] (fun z wx => z = .pointer (some ⟨wr.heap.size, 0, none⟩) ∧ Ra w gm gl wr.heap.size m x wx)
      case first =>
        go_wp2_with (first | (refine load_ract (.tmp 33) gb (ob + j * 15) x HR.out rfl rfl rfl ?_) | (refine store_ract (.tmp 8) (.tmp 34) wr.heap.size ac0 x H8.out rfl rfl rfl rfl rfl ?_))
        go_meet
        refine ⟨rfl, HL.out.call (below_setRow (bel_alloc wr (.cells ac0.cells AT)) (Nat.le_refl _) _), setRow_heap _ _ _ _ _ _ H8.out, HL.out.m.a.lt, HL.out.m.b.lt⟩
      case rest =>
      obtain ⟨rfl, hR1⟩ := hcut
      clear HL HR H8
      generalize wr.heap.size = ga at *
      have HLK := Lib.hid (fun m V (d : Ra w gm gl ga m x V) => mlink_any m gm gl V d.v.m)
      have HEP := Lib.hid (fun m V (hw : M.wf m) (d : Ra w gm gl ga m x V) => epoch_any m.l gl V d.v.m.b hw.l)
      go_wp2_with fail
      refine (HLK.out m _ hR1).mono ?_
      rintro r w' ⟨rfl, rfl⟩
      go_wp2_with fail
      refine (HEP.out m _ HMW.out hR1).mono ?_
      rintro r w' ⟨rfl, rfl⟩
      obtain ⟨m1, hm1⟩ : ∃ m1, m1 = if x.what % 3 = 0 then (m.on x.k).1 else m := ⟨_, rfl⟩
      obtain ⟨S, hS⟩ : ∃ S, S = (decide (x.what % 3 = 0) && decide ((m.l.acc x.k).2 = 0)) := ⟨_, rfl⟩
      have HM1 := Lib.hid hm1
      have HS := Lib.hid hS
      have HR1 := Lib.hid hR1
      have cw : wc.cell? ⟨ga, 0, none⟩ = some (.int .u8 x.what) := hR1.x.cell _ rfl
      have HP1 := Lib.hid (x.cells_pk (blk_range hR1.x))
      clear hm1 hS hR1
      go_upto_region 10 with fail
      go_cut [48] (fun z wx => z = .bool S ∧ Ra w gm gl ga m1 x wx)
      case first =>
        obtain ⟨E, hE⟩ : ∃ E, E = (m.on x.k).2 := ⟨_, rfl⟩
        have HON := Lib.hid (fun V (d : Ra w gm gl ga m x V) => mon_any m x.k x.vi x.vp gm gl V d.v.m HMW.out HOK.out.k
          (fun U q => (HOK.out.ins HFX.out.1).below (d.v.bel.trans (Kq.bel q d.v.bel.size d.v.om d.v.ol)))
          (fun U q => (HOK.out.prs HFX.out.2).below (d.v.bel.trans (Kq.bel q d.v.bel.size d.v.om d.v.ol)))
          (fun U q => tab_below HTT.out (d.v.bel.trans (Kq.bel q d.v.bel.size d.v.om d.v.ol))))
        rw [← hE] at HON
        have HE := Lib.hid (hE.trans (on_two m x.k).1)
        clear hE
        by_cases h0 : x.what % 3 = 0
        · have hz : (x.what : Int) % 3 = 0 := by omega
          have HQ := Lib.hid (show (m.on x.k).1 = m1 by rw [HM1.out, if_pos h0])
          have HP := HP1.out
          by_cases h1 : E = 0
          · have hz2 : (E == 0) = true := by rw [beq_iff_eq]; exact h1
            have HSQ := Lib.hid (show S = true by rw [HS.out, decide_eq_true h0, decide_eq_true (HE.out ▸ h1)]; rfl)
            clear h0 h1
            go_wp2_with (refine load_pk_midg (.tmp 44) ga 1 x.k x.vi x.vp HP rfl rfl rfl ?_)
            refine (HON.out _ HR1.out).mono ?_
            rintro r w2 ⟨rfl, hb, hk⟩
            have HR2 := Lib.hid (HR1.out.upon hb hk)
            clear hb hk HP
            go_wp2
            go_meet
            exact ⟨by rw [HSQ.out], HQ.out ▸ HR2.out⟩
          · have hz2 : (E == 0) = false := by rw [beq_eq_false_iff_ne]; exact h1
            have HSQ := Lib.hid (show S = false by rw [HS.out, decide_eq_true h0, decide_eq_false (fun h => h1 (HE.out.trans h))]; rfl)
            clear h0 h1
            go_wp2_with (refine load_pk_midg (.tmp 44) ga 1 x.k x.vi x.vp HP rfl rfl rfl ?_)
            refine (HON.out _ HR1.out).mono ?_
            rintro r w2 ⟨rfl, hb, hk⟩
            have HR2 := Lib.hid (HR1.out.upon hb hk)
            clear hb hk HP
            go_wp2
            go_meet
            exact ⟨by rw [HSQ.out], HQ.out ▸ HR2.out⟩
        · obtain ⟨N, hN⟩ : ∃ N : Bool, N = ((x.what : Int) % 3 == 0) := ⟨_, rfl⟩
          have hz : ((x.what : Int) % 3 == 0) = false := by rw [beq_eq_false_iff_ne]; omega
          have HQ := Lib.hid (show m = m1 by rw [HM1.out, if_neg h0])
          have HSQ := Lib.hid (show S = false by rw [HS.out, decide_eq_false h0]; rfl)
          clear h0 hN
          go_wp2
          go_meet
          exact ⟨by rw [HSQ.out], HQ.out ▸ HR1.out⟩
      case rest =>
      obtain ⟨rfl, hR2⟩ := hcut
      have HR2 := Lib.hid hR2
      have hm1w : m1.wf := by
        rw [HM1.out]; split
        · exact M.on_wf HMW.out HOK.out.k
        · exact HMW.out
      have HM1W := Lib.hid hm1w
      have HP2 := Lib.hid ((x.cells_pk (blk_range hR2.x)) 3 (.int .u64 x.k.dest) rfl)
      clear hR2 hm1w cw HR1 HP1
      go_upto_if 48 with fail
      go_cut [6] (fun z wx => z = .bool m1.l.met ∧ Ra w gm gl ga m1 x wx)
      case first =>
        cases S with
        | false =>
          have HQ := Lib.hid (show m1 = m by
            rw [HM1.out]
            split
            · next h => exact (on_two m x.k).2.1 (fun h9 => by have h8 := HS.out; rw [decide_eq_true h, decide_eq_true h9] at h8; cases h8)
            · rfl)
          go_wp2
          go_meet
          exact ⟨by rw [HQ.out], HR2.out⟩
        | true =>
          obtain ⟨D, hD⟩ : ∃ D, D = decide (x.k.dest = o) := ⟨_, rfl⟩
          have hs2 := HS.out.symm
          rw [Bool.and_eq_true, decide_eq_true_iff, decide_eq_true_iff] at hs2
          have hms := met_step HKN.out x.k hs2.2
          rw [show (m.on x.k).1 = m1 by rw [HM1.out, if_pos hs2.1], ← hD] at hms
          have HD := Lib.hid hD
          have HMS := Lib.hid hms
          clear hD hs2 hms
          go_wp2_with fail
          refine (HLK.out m1 _ HR2.out).mono ?_
          rintro r w' ⟨rfl, rfl⟩
          go_wp2_with fail
          refine (HEP.out m1 _ HM1W.out HR2.out).mono ?_
          rintro r w' ⟨rfl, rfl⟩
          have cd : wc.cell? ⟨ga, 1 + 3, none⟩ = some (.int .u64 x.k.dest) := HP2.out
          by_cases hep : m1.l.epoch = m.l.epoch
          · have te : ((m1.l.epoch : Int) != (m.l.epoch : Int)) = false := by rw [bne_eq_false_iff_eq]; omega
            cases hq : m.l.met with
            | true =>
              have HQ := Lib.hid (show m1.l.met = true by rw [HMS.out, if_neg (fun h => h hep), hq]; rfl)
              clear hep hq
              go_wp2
              go_meet
              exact ⟨by rw [HQ.out], HR2.out⟩
            | false =>
              have HQ := Lib.hid (show m1.l.met = D by rw [HMS.out, if_neg (fun h => h hep), hq]; rfl)
              clear hep hq
              by_cases h1 : 1 < e
              · have eD : ((x.k.dest : Int) == (e : Int)) = D := by rw [HD.out, HO.out, Nat.max_eq_right (Nat.le_of_lt h1), Bool.eq_iff_iff, beq_iff_eq, decide_eq_true_iff]; omega
                go_wp2
                go_meet
                exact ⟨by rw [HQ.out, ← eD], HR2.out⟩
              · have eD : ((x.k.dest : Int) == 1) = D := by rw [HD.out, HO.out, Nat.max_eq_left (Nat.le_of_not_lt h1), Bool.eq_iff_iff, beq_iff_eq, decide_eq_true_iff]; omega
                go_wp2
                go_meet
                exact ⟨by rw [HQ.out, ← eD], HR2.out⟩
          · have te : ((m1.l.epoch : Int) != (m.l.epoch : Int)) = true := by rw [bne_iff_ne]; omega
            have HQ := Lib.hid (show m1.l.met = D by rw [HMS.out, if_pos hep]; rfl)
            clear hep
            by_cases h1 : 1 < e
            · have eD : ((x.k.dest : Int) == (e : Int)) = D := by rw [HD.out, HO.out, Nat.max_eq_right (Nat.le_of_lt h1), Bool.eq_iff_iff, beq_iff_eq, decide_eq_true_iff]; omega
              go_wp2
              go_meet
              exact ⟨by rw [HQ.out, ← eD], HR2.out⟩
            · have eD : ((x.k.dest : Int) == 1) = D := by rw [HD.out, HO.out, Nat.max_eq_left (Nat.le_of_not_lt h1), Bool.eq_iff_iff, beq_iff_eq, decide_eq_true_iff]; omega
              go_wp2
              go_meet
              exact ⟨by rw [HQ.out, ← eD], HR2.out⟩
      case rest =>
      obtain ⟨rfl, hR3⟩ := hcut
      clear HR2 HP2
      obtain ⟨m2, hm2⟩ : ∃ m2, m2 = m.act x := ⟨_, rfl⟩
      have HM2 := Lib.hid (show m2 = if x.what % 3 = 1 then m1.look x.cn else m1 by
        rw [hm2, HM1.out]
        unfold M.act
        by_cases h0 : x.what % 3 = 0
        · rw [if_pos h0, if_pos h0, if_neg (by omega)]
        · rw [if_neg h0, if_neg h0])
      have HK2 := Lib.hid (show Kn o m2 by rw [hm2]; exact HKN.out.act x)
      have HW2 := Lib.hid (show m2.wf by rw [hm2]; exact M.act_wf HMW.out HOK.out)
      obtain ⟨b, hb⟩ : ∃ b, b = m2.l.met := ⟨_, rfl⟩
      have HB := Lib.hid hb
      have HMT := Lib.hid (show m1.l.met = b by rw [hb, HM2.out]; split <;> rfl)
      have HR3 := Lib.hid hR3
      have cw : wc.cell? ⟨ga, 0, none⟩ = some (.int .u8 x.what) := hR3.x.cell _ rfl
      have cc : wc.cell? ⟨ga, 13, none⟩ = some (.int .u64 x.cn) := hR3.x.cell _ rfl
      have HLO := Lib.hid (mlook_any m1 x.cn gm gl wc hR3.v.m)
      clear hR3 hm2 hb
      rw [HMT.out]
      go_upto_region 14 with fail
      go_cut [66] (fun z wx => z = .bool (decide (x.what % 3 = 1)) ∧ wc = wx)
      case first =>
        go_wp2
        go_meet
        refine ⟨?_, rfl⟩
        congr 1
        rw [Bool.eq_iff_iff, beq_iff_eq, decide_eq_true_iff]
        omega
      case rest =>
      obtain ⟨rfl, rfl⟩ := hcut
      clear cw
      go_upto_if 66 with fail
      go_cut [] (fun wx => Ra w gm gl ga m2 x wx)
      case first =>
        by_cases h1 : x.what % 3 = 1
        · rw [decide_eq_true h1]
          have HQ := Lib.hid (show m1.look x.cn = m2 by rw [HM2.out, if_pos h1])
          clear h1
          go_wp2_with fail
          refine HLO.out.mono ?_
          rintro r w2 ⟨rfl, hb, hk⟩
          have HR4 := Lib.hid (HR3.out.upon hb (kq_kp' hk))
          clear hb hk
          go_wp2
          go_meet
          exact HQ.out ▸ HR4.out
        · rw [decide_eq_false h1]
          have HQ := Lib.hid (show m1 = m2 by rw [HM2.out, if_neg h1])
          clear h1
          go_wp2
          go_meet
          exact HQ.out ▸ HR3.out
      case rest =>
      have hR4 := hcut
      clear hcut HLO HR3 cc
      have HST := Lib.hid (mstate_any m2 gm gl wc hR4.v.m)
      have HLK2 := Lib.hid (HLK.out m2 _ hR4)
      have HEP2 := Lib.hid (HEP.out m2 _ HW2.out hR4)
      have HR4 := Lib.hid hR4
      clear hR4 HLK HEP
      go_upto_region 16 with fail
      go_cut [91] (fun z wx => z = .bool false ∧ wc = wx)
      case first =>
        cases b with
        | true =>
          have hq := HB.out.symm
          have h1 := HK2.out.st.2 hq
          have h2 := HK2.out.ep hq
          have ts : ((m2.st : Int) != 1) = true := by rw [bne_iff_ne]; omega
          have tq : ((m2.st : Int) == 1) = false := by rw [beq_eq_false_iff_ne]; omega
          have te : ((m2.l.epoch : Int) == 0) = false := by rw [beq_eq_false_iff_ne]; omega
          clear h1 h2 hq
          go_wp2_with (first | (go_at_call 47; refine HST.out.mono ?_; rintro r w' ⟨rfl, rfl⟩) | (go_at_call 44; refine HLK2.out.mono ?_; rintro r w' ⟨rfl, rfl⟩) | (go_at_call 30; refine HEP2.out.mono ?_; rintro r w' ⟨rfl, rfl⟩))
          go_meet
          exact ⟨rfl, rfl⟩
        | false =>
          have h1 : m2.st = 1 := by
            by_cases h1 : m2.st = 1
            · exact h1
            · have h2 := HK2.out.st.1 h1
              rw [← HB.out] at h2
              cases h2
          have ts : ((m2.st : Int) != 1) = false := by rw [bne_eq_false_iff_eq]; omega
          have tq : ((m2.st : Int) == 1) = true := by rw [beq_iff_eq]; omega
          clear h1
          go_wp2_with (first | (go_at_call 47; refine HST.out.mono ?_; rintro r w' ⟨rfl, rfl⟩) | (go_at_call 44; refine HLK2.out.mono ?_; rintro r w' ⟨rfl, rfl⟩) | (go_at_call 30; refine HEP2.out.mono ?_; rintro r w' ⟨rfl, rfl⟩))
          go_meet
          exact ⟨rfl, rfl⟩
      case rest =>
      obtain ⟨rfl, rfl⟩ := hcut
      clear HST HLK2 HEP2
      go_wp2
      go_roundw
      case rel => exact ⟨j + 1, m2, by omega, by rw [HB.out], by go_num, HW2.out, HK2.out, HR4.out.v⟩
      case measure => simp [intOf]; omega
    · obtain rfl : j = xs.length := by omega
      have hB := hL.bel
      clear hL hkn hm
      go_wp2_with fail
      refine (HA.out _).mono ?_
      rintro r w3 ⟨rfl, hb⟩
      have hB3 := hB.trans (hb.mono hB.size)
      clear hb hB
      go_wp2
      go_ret
      exact ⟨rfl, hB3⟩
end Go.Proofs.YtdgbililgkhjfaaDoor.Rs
namespace Go.Proofs.YtdgbililgkhjfaaDoor.Rs
open Go.RowKit Go.Proofs.YtdgbililgkhjfaaDoor.Crc Go.Proofs.YtdgbililgkhjfaaDoor.Codec Go.Proofs.YtdgbililgkhjfaaDoor.Pk Go.Proofs.YtdgbililgkhjfaaDoor.CrcWalk Go.Proofs.YtdgbililgkhjfaaDoor.Frame
open Go.Proofs.YtdgbililgkhjfaaDoor.Lk (L lc nS mayL far_blk range_below)
set_option linter.unusedVariables false
set_option linter.unusedSimpArgs false
def zc : Array Value := #[.pointer none, .int .i64 0, .int .u64 0, .bool false]
set_option maxRecDepth 100000 in
theorem nis (w : World) : Calls Tryd.prog 81 #[.pointer none] w fun r w' => r = .returned (.bool false) ∧ w = w' := by
  go_enter Tryd.func81, Tryd.ntmps81
  go_wp2
  go_ret
  exact ⟨rfl, rfl⟩
set_option maxRecDepth 100000 in
theorem zis (g : Nat) (w : World) (hb : Blk w g zc MT) : Calls Tryd.prog 81 #[.pointer (some ⟨g, 0, none⟩)] w fun r w' => r = .returned (.bool false) ∧ w = w' := by
  have c0 : w.cell? ⟨g, 0, none⟩ = some (.pointer none) := hb.cell _ rfl
  clear hb
  go_enter Tryd.func81, Tryd.ntmps81
  go_wp2
  go_ret
  exact ⟨rfl, rfl⟩
set_option maxRecDepth 100000 in
theorem nlink (w : World) : Calls Tryd.prog 44 #[.pointer none] w fun r w' => r = .returned (.pointer none) ∧ w = w' := by
  have HI := Lib.hid (fun V (h : w = V) => nis V)
  go_enter Tryd.func44, Tryd.ntmps44
  go_wp2_with fail
  refine (HI.out _ rfl).mono ?_
  rintro r w' ⟨rfl, rfl⟩
  go_wp2
  go_ret
  exact ⟨rfl, rfl⟩
set_option maxRecDepth 100000 in
theorem nstate (w : World) : Calls Tryd.prog 47 #[.pointer none] w fun r w' => r = .returned (.int .i64 0) ∧ w = w' := by
  have HI := Lib.hid (fun V (h : w = V) => nis V)
  go_enter Tryd.func47, Tryd.ntmps47
  go_wp2_with fail
  refine (HI.out _ rfl).mono ?_
  rintro r w' ⟨rfl, rfl⟩
  go_wp2
  go_ret
  exact ⟨rfl, rfl⟩
set_option maxRecDepth 100000 in
theorem nlook (c : Nat) (w : World) : Calls Tryd.prog 46 #[.pointer none, .int .u64 c] w fun r w' => r = .returned (.int .i64 0) ∧ w = w' := by
  have HI := Lib.hid (fun V (h : w = V) => nis V)
  go_enter Tryd.func46, Tryd.ntmps46
  go_wp2_with fail
  refine (HI.out _ rfl).mono ?_
  rintro r w' ⟨rfl, rfl⟩
  go_wp2
  go_ret
  exact ⟨rfl, rfl⟩
set_option maxRecDepth 100000 in
theorem zgoal (g : Nat) (w : World) (hb : Blk w g zc MT) : Calls Tryd.prog 50 #[.pointer (some ⟨g, 0, none⟩)] w fun r w' => r = .returned (.int .u64 0) ∧ w = w' := by
  have HI := Lib.hid (fun V (h : w = V) => zis g V (h ▸ hb))
  go_enter Tryd.func50, Tryd.ntmps50
  go_wp2_with fail
  refine (HI.out _ rfl).mono ?_
  rintro r w' ⟨rfl, rfl⟩
  go_wp2
  go_ret
  exact ⟨rfl, rfl⟩
set_option maxRecDepth 100000 in
theorem non (k : K) (vi vp : Value) (w : World) : Calls Tryd.prog 45 #[.pointer none, .agg (pc k vi vp)] w fun r w' => r = .returned (.int .i64 1) ∧ Below w.heap.size w w' := by
  have hB := bel_alloc w (.cells (pc k vi vp) PT)
  have HI := Lib.hid (nis (w.alloc (.cells (pc k vi vp) PT)))
  have HB := Lib.hid hB
  clear hB
  go_enter Tryd.func45, Tryd.ntmps45
  go_wp2_with fail
  go_step3
  go_wp2_with fail
  refine HI.out.mono ?_
  rintro r w' ⟨rfl, rfl⟩
  go_wp2
  try rw [Exit.noGoto_ret]
  go_ret
  exact ⟨rfl, HB.out⟩
set_option maxRecDepth 100000 in
theorem zon (k : K) (vi vp : Value) (g : Nat) (w : World) (hb : Blk w g zc MT) : Calls Tryd.prog 45 #[.pointer (some ⟨g, 0, none⟩), .agg (pc k vi vp)] w fun r w' => r = .returned (.int .i64 1) ∧ Below w.heap.size w w' := by
  have hB := bel_alloc w (.cells (pc k vi vp) PT)
  have HI := Lib.hid (zis g (w.alloc (.cells (pc k vi vp) PT)) (hb.alloc _))
  have HB := Lib.hid hB
  clear hB
  go_enter Tryd.func45, Tryd.ntmps45
  go_wp2_with fail
  go_step3
  go_wp2_with fail
  refine HI.out.mono ?_
  rintro r w' ⟨rfl, rfl⟩
  go_wp2
  try rw [Exit.noGoto_ret]
  go_ret
  exact ⟨rfl, HB.out⟩
set_option maxRecDepth 100000 in
theorem zout (now cn ow g : Nat) (w : World) (hb : Blk w g zc MT) : Calls Tryd.prog 51 #[.pointer (some ⟨g, 0, none⟩), .int .u64 now, .int .u64 cn, .int .u64 ow] w fun r w' => r = .returned (.slice none 0 0) ∧ Below w.heap.size w w' := by
  have hb1 : Blk ((((w.alloc (.cells #[.pointer (some ⟨g, 0, none⟩)] 76)).alloc (.cells #[.int .u64 cn] 22)).alloc (.cells #[.int .u64 ow] 22)).alloc (.cells #[.slice none 0 0] ST)) g zc MT := (((hb.alloc _).alloc _).alloc _).alloc _
  have hB1 : Below w.heap.size w ((((w.alloc (.cells #[.pointer (some ⟨g, 0, none⟩)] 76)).alloc (.cells #[.int .u64 cn] 22)).alloc (.cells #[.int .u64 ow] 22)).alloc (.cells #[.slice none 0 0] ST)) :=
    ((((Below.refl _ w).alloc (Nat.le_refl _) _).alloc (by simp) _).alloc (by simp; omega) _).alloc (by simp; omega) _
  have hx0 : Blk ((((w.alloc (.cells #[.pointer (some ⟨g, 0, none⟩)] 76)).alloc (.cells #[.int .u64 cn] 22)).alloc (.cells #[.int .u64 ow] 22)).alloc (.cells #[.slice none 0 0] ST)) w.heap.size #[.pointer (some ⟨g, 0, none⟩)] 76 := Blk.alloc (Blk.alloc (Blk.alloc (heap_alloc_new w _) _) _) _
  have hx3 : Blk ((((w.alloc (.cells #[.pointer (some ⟨g, 0, none⟩)] 76)).alloc (.cells #[.int .u64 cn] 22)).alloc (.cells #[.int .u64 ow] 22)).alloc (.cells #[.slice none 0 0] ST)) (w.heap.size + 1 + 1 + 1) #[.slice none 0 0] ST := by
    have e3 : (((w.alloc (.cells #[.pointer (some ⟨g, 0, none⟩)] 76)).alloc (.cells #[.int .u64 cn] 22)).alloc (.cells #[.int .u64 ow] 22)).heap.size = w.heap.size + 1 + 1 + 1 := by simp
    rw [← e3]; exact heap_alloc_new _ _
  have c0 := hx0.cell (off := 0) _ rfl
  have HI := Lib.hid (zis g _ hb1)
  clear hb hb1 hx0
  go_enter Tryd.func51, Tryd.ntmps51
  go_upto_region 1 with fail
  change Code.wp _ _ _ _ ((((w.alloc (.cells #[.pointer (some ⟨g, 0, none⟩)] 76)).alloc (.cells #[.int .u64 cn] 22)).alloc (.cells #[.int .u64 ow] 22)).alloc (.cells #[.slice none 0 0] ST))
  generalize ((((w.alloc (.cells #[.pointer (some ⟨g, 0, none⟩)] 76)).alloc (.cells #[.int .u64 cn] 22)).alloc (.cells #[.int .u64 ow] 22)).alloc (.cells #[.slice none 0 0] ST)) = w1 at *
  go_wp2_with fail
  refine HI.out.mono ?_
  rintro r w' ⟨rfl, rfl⟩
  have c3 := hx3.cell (off := 0) _ rfl
  have f3 : w1.frozen? ⟨w.heap.size + 1 + 1 + 1, 0, none⟩ = false := hx3.free
  have hb8 := hx3.set (off := 0) (.slice none 0 0)
  have c8 : (w1.setCell ⟨w.heap.size + 1 + 1 + 1, 0, none⟩ (.slice none 0 0)).cell? ⟨w.heap.size + 1 + 1 + 1, 0, none⟩ = some (.slice none 0 0) := hb8.cell _ rfl
  have HF := Lib.hid (hB1.setCell (p := ⟨w.heap.size + 1 + 1 + 1, 0, none⟩) (by show w.heap.size ≤ w.heap.size + 1 + 1 + 1; omega) (.slice none 0 0))
  clear hx3 hb8 hB1
  go_wp2
  exact bodyPost_ret (res_slice rfl _ _ (w.heap.size + 1 + 1 + 1) _ rfl c8) rfl ⟨rfl, HF.out⟩
/-- Two machines of the call's own, and the list that was told last. -/
structure Bo (w : World) (gm gl hm hl : Nat) (a b : M) (v : Value) (l : List K) (W : World) : Prop where
  p : Mb gm gl a W
  q : Mb hm hl b W
  bel : Below w.heap.size w W
  o1 : w.heap.size ≤ gm
  o2 : w.heap.size ≤ gl
  o3 : w.heap.size ≤ hm
  o4 : w.heap.size ≤ hl
  n1 : gm ≠ hm
  n2 : gm ≠ hl
  n3 : gl ≠ hm
  n4 : gl ≠ hl
  own : ∃ B, W.ownsRow B PT 11 v l.length (pks l) ∧ gm < B ∧ gl < B ∧ hm < B ∧ hl < B
theorem ownq {W W' : World} {B p q sz n : Nat} {e : TypeId} {v : Value} {xs : List Value} (h : W.ownsRow B e sz v n xs) (hk : Kq W.heap.size p q W W') (hp : p < B) (hq : q < B) : W'.ownsRow B e sz v n xs := by
  refine ⟨h.1, ?_⟩
  rcases h.2 with h5 | ⟨b, cap, cur, e1, hb1, hb, hrest⟩
  · exact .inl h5
  · exact .inr ⟨b, cap, cur, e1, hb1, (hk.block b (Array.getElem?_eq_some_iff.1 hb).1 (by omega) (by omega)).trans hb, hrest⟩
section
variable {w W W' : World} {gm gl hm hl : Nat} {a b : M} {v : Value} {l : List K}
theorem Bo.call (d : Bo w gm gl hm hl a b v l W) (hb : Below W.heap.size W W') : Bo w gm gl hm hl a b v l W' := by
  obtain ⟨B, h, h1, h2, h3, h4⟩ := d.own
  exact ⟨d.p.call hb, d.q.call hb, d.bel.trans (hb.mono d.bel.size), d.o1, d.o2, d.o3, d.o4, d.n1, d.n2, d.n3, d.n4, B, ownb h hb, h1, h2, h3, h4⟩
theorem Bo.atA {a' : M} (d : Bo w gm gl hm hl a b v l W) (hp : Mb gm gl a' W') (hk : Kq W.heap.size gm gl W W') : Bo w gm gl hm hl a' b v l W' := by
  obtain ⟨B, h, h1, h2, h3, h4⟩ := d.own
  exact ⟨hp, ⟨Kq.blk hk d.q.a d.q.a.lt d.n1.symm d.n3.symm, Kq.blk hk d.q.b d.q.b.lt d.n2.symm d.n4.symm, d.q.ne⟩, d.bel.trans (Kq.bel hk d.bel.size d.o1 d.o2), d.o1, d.o2, d.o3, d.o4, d.n1, d.n2, d.n3, d.n4, B, ownq h hk h1 h2, h1, h2, h3, h4⟩
theorem Bo.atB {b' : M} (d : Bo w gm gl hm hl a b v l W) (hq : Mb hm hl b' W') (hk : Kq W.heap.size hm hl W W') : Bo w gm gl hm hl a b' v l W' := by
  obtain ⟨B, h, h1, h2, h3, h4⟩ := d.own
  exact ⟨⟨Kq.blk hk d.p.a d.p.a.lt d.n1 d.n2, Kq.blk hk d.p.b d.p.b.lt d.n3 d.n4, d.p.ne⟩, hq, d.bel.trans (Kq.bel hk d.bel.size d.o3 d.o4), d.o1, d.o2, d.o3, d.o4, d.n1, d.n2, d.n3, d.n4, B, ownq h hk h3 h4, h1, h2, h3, h4⟩
theorem Bo.list {v' : Value} {l' : List K} {B : Nat} (d : Bo w gm gl hm hl a b v l W) (ho : W.ownsRow B PT 11 v' l'.length (pks l')) (h1 : gm < B) (h2 : gl < B) (h3 : hm < B) (h4 : hl < B) : Bo w gm gl hm hl a b v' l' W :=
  ⟨d.p, d.q, d.bel, d.o1, d.o2, d.o3, d.o4, d.n1, d.n2, d.n3, d.n4, B, ho, h1, h2, h3, h4⟩
theorem bo_outA (d : Bo w gm gl hm hl a b v l W) (now cn ow : Nat) (hw : a.wf) (h1 : now < 18446744073709551616) (h2 : cn < 18446744073709551616) (h3 : ow < 18446744073709551616) (ks : List K) (hks : a.out now cn ow = ks) :
    Calls Tryd.prog 51 #[.pointer (some ⟨gm, 0, none⟩), .int .u64 now, .int .u64 cn, .int .u64 ow] W fun r W' => ∃ v', r = .returned v' ∧ Bo w gm gl hm hl (a.outs now) b v' ks W' := by
  subst hks
  refine (out_any a now cn ow gm gl W d.p hw h1 h2 h3).mono ?_
  rintro r W' ⟨v', rfl, hp, hown, hk⟩
  have e1 := d.p.a.lt
  have e2 := d.p.b.lt
  have e3 := d.q.a.lt
  have e4 := d.q.b.lt
  exact ⟨v', rfl, (d.atA hp hk).list hown (by omega) (by omega) (by omega) (by omega)⟩
theorem bo_outB (d : Bo w gm gl hm hl a b v l W) (now cn ow : Nat) (hw : b.wf) (h1 : now < 18446744073709551616) (h2 : cn < 18446744073709551616) (h3 : ow < 18446744073709551616) (ks : List K) (hks : b.out now cn ow = ks) :
    Calls Tryd.prog 51 #[.pointer (some ⟨hm, 0, none⟩), .int .u64 now, .int .u64 cn, .int .u64 ow] W fun r W' => ∃ v', r = .returned v' ∧ Bo w gm gl hm hl a (b.outs now) v' ks W' := by
  subst hks
  refine (out_any b now cn ow hm hl W d.q hw h1 h2 h3).mono ?_
  rintro r W' ⟨v', rfl, hp, hown, hk⟩
  have e1 := d.p.a.lt
  have e2 := d.p.b.lt
  have e3 := d.q.a.lt
  have e4 := d.q.b.lt
  exact ⟨v', rfl, (d.atB hp hk).list hown (by omega) (by omega) (by omega) (by omega)⟩
theorem bo_onA (d : Bo w gm gl hm hl a b v l W) (k : K) (hw : a.wf) (hk : k.wf) (hi : k.ins = []) (hp : k.prs = []) (hT : Tab w) :
    Calls Tryd.prog 45 #[.pointer (some ⟨gm, 0, none⟩), .agg (pc k nS nS)] W fun r W' => r = .returned (.int .i64 (a.on k).2) ∧ Bo w gm gl hm hl (a.on k).1 b v l W' := by
  refine (mon_any a k nS nS gm gl W d.p hw hk (fun V q => by rw [hi]; exact ins_nil _) (fun V q => by rw [hp]; exact prs_nil _) (fun V q => tab_below hT (d.bel.trans (Kq.bel q d.bel.size d.o1 d.o2)))).mono ?_
  rintro r W' ⟨rfl, hb, hk⟩
  exact ⟨rfl, d.atA hb hk⟩
theorem bo_onB (d : Bo w gm gl hm hl a b v l W) (k : K) (hw : b.wf) (hk : k.wf) (hi : k.ins = []) (hp : k.prs = []) (hT : Tab w) :
    Calls Tryd.prog 45 #[.pointer (some ⟨hm, 0, none⟩), .agg (pc k nS nS)] W fun r W' => r = .returned (.int .i64 (b.on k).2) ∧ Bo w gm gl hm hl a (b.on k).1 v l W' := by
  refine (mon_any b k nS nS hm hl W d.q hw hk (fun V q => by rw [hi]; exact ins_nil _) (fun V q => by rw [hp]; exact prs_nil _) (fun V q => tab_below hT (d.bel.trans (Kq.bel q d.bel.size d.o3 d.o4)))).mono ?_
  rintro r W' ⟨rfl, hb, hk⟩
  exact ⟨rfl, d.atB hb hk⟩
theorem bo_lookA (d : Bo w gm gl hm hl a b v l W) (c : Nat) :
    Calls Tryd.prog 46 #[.pointer (some ⟨gm, 0, none⟩), .int .u64 c] W fun r W' => r = .returned (.int .i64 (a.look c).st) ∧ Bo w gm gl hm hl (a.look c) b v l W' := by
  refine (mlook_any a c gm gl W d.p).mono ?_
  rintro r W' ⟨rfl, hb, hk⟩
  exact ⟨rfl, d.atA hb (kq_kp' hk)⟩
theorem bo_lookB (d : Bo w gm gl hm hl a b v l W) (c : Nat) :
    Calls Tryd.prog 46 #[.pointer (some ⟨hm, 0, none⟩), .int .u64 c] W fun r W' => r = .returned (.int .i64 (b.look c).st) ∧ Bo w gm gl hm hl a (b.look c) v l W' := by
  refine (mlook_any b c hm hl W d.q).mono ?_
  rintro r W' ⟨rfl, hb, hk⟩
  exact ⟨rfl, d.atB hb (kq_kp' hk)⟩
theorem Bo.row (d : Bo w gm gl hm hl a b v l W) (i : Nat) (h : i < l.length) : ∃ g c, v = .slice (some ⟨g, 0, none⟩) l.length c ∧ W.rangeAt g (i * 11) (pc l[i] nS nS).toList := by
  obtain ⟨B, ho, _⟩ := d.own
  obtain ⟨b, c, hv, hc⟩ := Pks.of_own ho
  obtain ⟨g, hb, _, hr⟩ := hc i h
  exact ⟨g, c, by rw [hv, hb], hr⟩
theorem Bo.pks (d : Bo w gm gl hm hl a b v l W) : Pks W v l := by
  obtain ⟨B, ho, _⟩ := d.own
  exact Pks.of_own ho
end
end Go.Proofs.YtdgbililgkhjfaaDoor.Rs
namespace Go.Proofs.YtdgbililgkhjfaaDoor.Rs
open Go.RowKit Go.Proofs.YtdgbililgkhjfaaDoor.Crc Go.Proofs.YtdgbililgkhjfaaDoor.Codec Go.Proofs.YtdgbililgkhjfaaDoor.Pk Go.Proofs.YtdgbililgkhjfaaDoor.CrcWalk Go.Proofs.YtdgbililgkhjfaaDoor.Frame
open Go.Proofs.YtdgbililgkhjfaaDoor.Lk (L lc)
set_option linter.unusedVariables false
set_option linter.unusedSimpArgs false
/-- What one is that hears the packets that are not lost. -/
def feed : M → List K → List Bool → M
  | y, [], _ => y
  | y, k :: ks, ls => feed (if ls.head? = some true then y else (y.on k).1) ks ls.tail
/-- Two machines, their counts, and what is lost yet. -/
structure R where
  a : M
  b : M
  ca : Nat
  cb : Nat
  ls : List Bool
/-- One tells, the other one hears. -/
def R.giveA (r : R) (now : Nat) : R := ⟨r.a.outs now, feed r.b (r.a.out now r.ca r.ca) r.ls, r.ca, r.cb, r.ls.drop (r.a.out now r.ca r.ca).length⟩
def R.giveB (r : R) (now : Nat) : R := ⟨feed r.a (r.b.out now r.cb r.cb) r.ls, r.b.outs now, r.ca, r.cb, r.ls.drop (r.b.out now r.cb r.cb).length⟩
def R.looks (r : R) : R := ⟨r.a.look (max r.ca r.a.goal), r.b.look (max r.cb r.b.goal), max r.ca r.a.goal, max r.cb r.b.goal, r.ls⟩
def R.step (r : R) (now : Nat) : R := ((r.giveA now).giveB now).looks
def R.go : Nat → Nat → R → R
  | _, 0, r => r
  | now, n + 1, r => R.go (now + 1) n (r.step now)
/-- What hearing does: ox is the speaker's epoch; kn: it knows the hearer's. -/
structure He (ox : Nat) (kn : Prop) (y y' : M) : Prop where
  own : y'.l.own = y.l.own
  player : y'.l.player = y.l.player
  every : y'.l.every = y.l.every
  last : y'.l.last = y.l.last
  spoke : y'.l.spoke = y.l.spoke
  ep : y'.l.epoch = y.l.epoch ∨ y'.l.epoch = ox
  ep2 : y.l.epoch = ox → y'.l.epoch = ox
  same : y.st ≠ 1 → y.l.epoch = ox → y'.st = y.st
  st : y'.st ≠ 1 → (y.st ≠ 1 ∧ y'.l.epoch = y.l.epoch) ∨ kn
  urged : y.l.urged = true → y'.l.urged = true
  owes : y.owes = true → y'.owes = true
theorem He.refl (ox : Nat) (kn : Prop) (y : M) : He ox kn y y :=
  ⟨rfl, rfl, rfl, rfl, rfl, .inl rfl, fun h => h, fun _ _ => rfl, fun h => .inl ⟨h, rfl⟩, fun h => h, fun h => h⟩
theorem He.trans {ox : Nat} {kn : Prop} {x y z : M} (h : He ox kn x y) (g : He ox kn y z) : He ox kn x z := by
  refine ⟨g.own.trans h.own, g.player.trans h.player, g.every.trans h.every, g.last.trans h.last, g.spoke.trans h.spoke, ?_, fun e => g.ep2 (h.ep2 e), ?_, ?_, fun e => g.urged (h.urged e), fun e => g.owes (h.owes e)⟩
  · rcases g.ep with e | e
    · rcases h.ep with f | f
      · exact .inl (e.trans f)
      · exact .inr (e.trans f)
    · exact .inr e
  · intro e f
    have e1 := h.same e f
    rw [g.same (by rw [e1]; exact e) (h.ep2 f), e1]
  · intro e
    rcases g.st e with ⟨e1, e2⟩ | e1
    · rcases h.st e1 with ⟨f1, f2⟩ | f1
      · exact .inl ⟨f1, e2.trans f2⟩
      · exact .inr f1
    · exact .inr e1
theorem acc_le {l : L} {k : K} (h : (l.acc k).2 = 0) : l.epoch ≤ k.epoch := by
  unfold L.acc at h
  split at h
  · exact absurd h (show ¬ (4 : Int) = 0 by decide)
  · split at h
    · exact absurd h (show ¬ (12 : Int) = 0 by decide)
    · next h2 => omega
theorem acc_yes {l : L} {k : K} (h1 : k.may) (h2 : k.only = k) (h3 : k.player ≠ l.player) (h4 : l.epoch ≤ k.epoch) (h5 : k.dest = l.own ∨ k.kind = 1) : (l.acc k).2 = 0 := by
  unfold L.acc
  rw [if_neg (by rintro (h | h); exact h ⟨h1, h2⟩; exact h3 h), if_neg (by rintro (h | h); omega; rcases h5 with h6 | h6; exact h.1 h6; exact h.2 h6)]
theorem on_he (y : M) (k : K) {o : Nat} (hn : Kn o y) : He k.epoch (k.dest = y.l.own) y (y.on k).1 := by
  by_cases h0 : (y.l.acc k).2 = 0
  · obtain ⟨h1, _, _⟩ := (on_two y k).2.2 h0
    have hle := acc_le h0
    rw [h1]
    have e1 : (y.l.told k).epoch = k.epoch := Nat.max_eq_right hle
    have e2 : (y.l.told k).met = ((!decide (y.l.epoch < k.epoch) && y.l.met) || decide (k.dest = y.l.own)) := rfl
    refine ⟨rfl, rfl, rfl, rfl, rfl, .inr e1, fun _ => e1, ?_, ?_, ?_, ?_⟩
    · intro h2 h3
      show (if y.met1 (y.l.told k) = true then 2 else y.st1 (y.l.told k)) = y.st
      have e3 : y.st1 (y.l.told k) = y.st := by unfold M.st1; rw [if_pos (by rw [e1, h3])]
      have e4 : y.met1 (y.l.told k) = false := by unfold M.met1; rw [e3, decide_eq_false h2]; rfl
      rw [e4, e3]; rfl
    · show (if y.met1 (y.l.told k) = true then 2 else y.st1 (y.l.told k)) ≠ 1 → _
      intro h2
      show (y.st ≠ 1 ∧ (y.l.told k).epoch = y.l.epoch) ∨ _
      by_cases h3 : y.met1 (y.l.told k) = true
      · right
        unfold M.met1 at h3
        rw [Bool.and_eq_true, decide_eq_true_eq] at h3
        by_cases hd : k.dest = y.l.own
        · exact hd
        · exfalso
          rw [e2, decide_eq_false hd, Bool.or_false, Bool.and_eq_true, Bool.not_eq_true', decide_eq_false_iff_not] at h3
          obtain ⟨h4, h5, h6⟩ := h3
          have h7 := hn.st.2 h6
          unfold M.st1 at h4
          rw [if_pos (by rw [e1]; omega)] at h4
          exact h7 h4
      · left
        rw [if_neg h3] at h2
        unfold M.st1 at h2
        by_cases h4 : (y.l.told k).epoch = y.l.epoch
        · rw [if_pos h4] at h2
          exact ⟨h2, h4⟩
        · rw [if_neg h4] at h2
          exact absurd rfl h2
    · intro h2
      show (y.l.urged || decide (y.l.epoch < k.epoch) || decide (k.kind = 1)) = true
      rw [h2]; rfl
    · intro h2
      show (y.owes || decide (k.kind = 1)) = true
      rw [h2]; rfl
  · rw [(on_two y k).2.1 h0]; exact .refl _ _ _
theorem feed_he (ox d : Nat) {o : Nat} : ∀ (ks : List K) (y : M) (ls : List Bool), Kn o y → (∀ k ∈ ks, k.epoch = ox ∧ k.dest = d) → He ox (d = y.l.own) y (feed y ks ls) ∧ Kn o (feed y ks ls)
  | [], y, ls, hn, _ => ⟨.refl _ _ _, hn⟩
  | k :: ks, y, ls, hn, hk => by
    obtain ⟨h1, h2⟩ := hk k (List.mem_cons_self ..)
    show He ox (d = y.l.own) y (feed (if ls.head? = some true then y else (y.on k).1) ks ls.tail) ∧ _
    have h3 : He ox (d = y.l.own) y (if ls.head? = some true then y else (y.on k).1) ∧ Kn o (if ls.head? = some true then y else (y.on k).1) := by
      split
      · exact ⟨.refl _ _ _, hn⟩
      · have := on_he y k hn
        rw [h1, h2] at this
        exact ⟨this, hn.on k⟩
    obtain ⟨h4, h5⟩ := feed_he ox d ks (if ls.head? = some true then y else (y.on k).1) ls.tail h3.2 (fun k' hk' => hk k' (List.mem_cons_of_mem _ hk'))
    rw [h3.1.own] at h4
    exact ⟨h3.1.trans h4, h5⟩
theorem feed_wf : ∀ (ks : List K) (y : M) (ls : List Bool), y.wf → (∀ k ∈ ks, k.wf) → (feed y ks ls).wf
  | [], y, ls, hn, _ => hn
  | k :: ks, y, ls, hn, hk => by
    show (feed (if ls.head? = some true then y else (y.on k).1) ks ls.tail).wf
    refine feed_wf ks _ _ ?_ (fun k' hk' => hk k' (List.mem_cons_of_mem _ hk'))
    split
    · exact hn
    · exact M.on_wf hn (hk k (List.mem_cons_self ..))
/-- The packets that are told. -/
theorem told_ok {l : L} {kd : Int} {c own : Nat} (hl : l.wf) (hp : l.player ≤ 1) (ho : l.own ≠ 0) (hc : c < 18446744073709551616) (hw : own < 18446744073709551616) (hk : kd = 1 ∨ kd = 2) :
    (told l kd c own).wf ∧ (told l kd c own).only = told l kd c own ∧ (kd = 1 ∨ l.epoch ≠ 0 → (told l kd c own).may) := by
  refine ⟨?_, ?_, ?_⟩
  · refine ⟨?_, hl.player, hl.own, hl.epoch, hc, Nat.max_lt.2 ⟨hw, hc⟩, by show (0 : Nat) < _; decide, by show (0 : Nat) < _; decide, by show (0 : Nat) < _; decide⟩
    show -9223372036854775808 ≤ kd ∧ kd ≤ 9223372036854775807
    omega
  · unfold K.only
    have : (told l kd c own).kind = kd := rfl
    rw [this, if_pos hk]
    rfl
  · intro h
    refine ⟨?_, ?_, hp, ho, ?_, ?_, ?_, ?_, ?_, ?_, ?_⟩
    · show 1 ≤ kd
      omega
    · show kd ≤ 5
      omega
    · show l.epoch ≠ 0 ∨ kd = 1
      omega
    · intro _
      show c ≤ max own c
      omega
    · show kd = 4 → _
      intro e
      omega
    · show 0 + 0 ≤ 32
      decide
    · show 0 + (0 + 0) ≤ 18446744073709551615
      decide
    · intro i hi; cases hi
    · intro i hi; cases hi
theorem out_mem {m : M} {now c own : Nat} {k : K} (h : k ∈ m.out now c own) : k = told m.l 2 c own ∨ k = told m.l 1 c own := by
  unfold M.out at h
  rw [List.mem_append] at h
  rcases h with h | h
  · split at h
    · exact .inl (List.mem_singleton.1 h)
    · cases h
  · split at h
    · exact .inr (List.mem_singleton.1 h)
    · cases h
theorem out_mem2 {m : M} {now c own : Nat} {k : K} (h : k ∈ m.out now c own) : k.epoch = m.l.own ∧ k.dest = m.l.epoch := by
  rcases out_mem h with rfl | rfl <;> exact ⟨rfl, rfl⟩
/-- A Hello that is heard. -/
theorem on_hello {x : L} {y : M} {c own : Nat} (hx : x.wf) (hp : x.player ≤ 1) (ho : x.own ≠ 0) (hc : c < 18446744073709551616) (hw : own < 18446744073709551616) (hpl : x.player ≠ y.l.player) (hle : y.l.epoch ≤ x.own) :
    (y.on (told x 1 c own)).1.l.epoch = x.own ∧ (y.on (told x 1 c own)).1.owes = true ∧ (y.on (told x 1 c own)).1.l.urged = true := by
  obtain ⟨h1, h2, h3⟩ := told_ok hx hp ho hc hw (.inl rfl : (1 : Int) = 1 ∨ (1 : Int) = 2)
  have h0 : (y.l.acc (told x 1 c own)).2 = 0 := acc_yes (h3 (.inl rfl)) h2 hpl hle (.inr rfl)
  obtain ⟨h4, _, _⟩ := (on_two y _).2.2 h0
  rw [h4]
  refine ⟨Nat.max_eq_right hle, ?_, ?_⟩
  · show (y.owes || true) = true
    exact Bool.or_true _
  · show (y.l.urged || decide (y.l.epoch < x.own) || true) = true
    exact Bool.or_true _
/-- A Welcome that is heard. -/
theorem on_welcome {x : L} {y : M} {c own o : Nat} (hn : Kn o y) (hx : x.wf) (hp : x.player ≤ 1) (ho : x.own ≠ 0) (hc : c < 18446744073709551616) (hw : own < 18446744073709551616) (hpl : x.player ≠ y.l.player) (hle : y.l.epoch ≤ x.own) (hd : x.epoch = y.l.own) (hz : x.epoch ≠ 0) :
    (y.on (told x 2 c own)).1.l.epoch = x.own ∧ (y.on (told x 2 c own)).1.st ≠ 1 := by
  obtain ⟨h1, h2, h3⟩ := told_ok hx hp ho hc hw (.inr rfl : (2 : Int) = 1 ∨ (2 : Int) = 2)
  have h0 : (y.l.acc (told x 2 c own)).2 = 0 := acc_yes (h3 (.inr hz)) h2 hpl hle (.inl hd)
  obtain ⟨h4, _, _⟩ := (on_two y _).2.2 h0
  have h5 := (hn.on (told x 2 c own)).st
  refine ⟨by rw [h4]; exact Nat.max_eq_right hle, h5.2 ?_⟩
  rw [h4]
  show ((!decide (y.l.epoch < x.own) && y.l.met) || decide (x.epoch = y.l.own)) = true
  rw [decide_eq_true hd, Bool.or_true]
theorem feed_app : ∀ (ks ms : List K) (y : M), feed y (ks ++ ms) [] = feed (feed y ks []) ms []
  | [], ms, y => rfl
  | k :: ks, ms, y => feed_app ks ms (y.on k).1
/-- One that says Hello, and nothing is lost. -/
theorem feed_says {x y : M} {now c o : Nat} (hx : x.wf) (hp : x.l.player ≤ 1) (ho : x.l.own ≠ 0) (hc : c < 18446744073709551616) (hpl : x.l.player ≠ y.l.player) (hle : y.l.epoch ≤ x.l.own) (hn : Kn o y) (hs : x.says now = true) :
    (feed y (x.out now c c) []).l.epoch = x.l.own ∧ (feed y (x.out now c c) []).owes = true ∧ (feed y (x.out now c c) []).l.urged = true := by
  unfold M.out
  rw [if_pos hs, feed_app]
  obtain ⟨h1, h2⟩ := feed_he x.l.own x.l.epoch (if x.owes = true then [told x.l 2 c c] else []) y [] hn (by
    intro k hk
    split at hk
    · rw [List.mem_singleton.1 hk]; exact ⟨rfl, rfl⟩
    · cases hk)
  generalize feed y (if x.owes = true then [told x.l 2 c c] else []) [] = y1 at h1 h2 ⊢
  exact on_hello hx.l hp ho hc hc (by rw [h1.player]; exact hpl) (by rcases h1.ep with e | e <;> rw [e]; exact hle; exact Nat.le_refl _)
/-- One that owes a Welcome, and nothing is lost. -/
theorem feed_owes {x y : M} {now c o : Nat} (hx : x.wf) (hp : x.l.player ≤ 1) (ho : x.l.own ≠ 0) (hc : c < 18446744073709551616) (hpl : x.l.player ≠ y.l.player) (hle : y.l.epoch ≤ x.l.own) (hn : Kn o y) (hs : x.owes = true) (hd : x.l.epoch = y.l.own) (hz : x.l.epoch ≠ 0) :
    (feed y (x.out now c c) []).st ≠ 1 := by
  unfold M.out
  rw [if_pos hs]
  show (feed (y.on (told x.l 2 c c)).1 (if x.says now = true then [told x.l 1 c c] else []) []).st ≠ 1
  obtain ⟨h1, h2⟩ := on_welcome (own := c) hn hx.l hp ho hc hc hpl hle hd hz
  obtain ⟨h3, h4⟩ := feed_he x.l.own x.l.epoch (if x.says now = true then [told x.l 1 c c] else []) (y.on (told x.l 2 c c)).1 [] (hn.on _) (by
    intro k hk
    split at hk
    · rw [List.mem_singleton.1 hk]; exact ⟨rfl, rfl⟩
    · cases hk)
  rw [h3.same h2 h1]
  exact h2
/-- One of the two: its player, its epoch, the other one's, an old one of that, how often it says Hello. -/
structure Si (m : M) (p o ot old ev : Nat) : Prop where
  player : m.l.player = p
  every : m.l.every = ev
  ep : m.l.epoch = ot ∨ m.l.epoch = old
  kn : Kn o m
  wf : m.wf
theorem Si.he {y y' : M} {p o ot old ev : Nat} {kn : Prop} (h : Si y p o ot old ev) (g : He ot kn y y') (hk : Kn o y') (hw : y'.wf) : Si y' p o ot old ev :=
  ⟨g.player.trans h.player, g.every.trans h.every, by
    rcases g.ep with e | e
    · rw [e]; exact h.ep
    · exact .inl e, hk, hw⟩
theorem outs_l (m : M) (now : Nat) : (m.outs now).l.own = m.l.own ∧ (m.outs now).l.player = m.l.player ∧ (m.outs now).l.every = m.l.every ∧ (m.outs now).l.epoch = m.l.epoch ∧ (m.outs now).l.met = m.l.met := by
  show (if m.says now = true then m.l.sent now else m.l).own = _ ∧ (if m.says now = true then m.l.sent now else m.l).player = _ ∧ (if m.says now = true then m.l.sent now else m.l).every = _ ∧ (if m.says now = true then m.l.sent now else m.l).epoch = _ ∧ (if m.says now = true then m.l.sent now else m.l).met = _
  split <;> exact ⟨rfl, rfl, rfl, rfl, rfl⟩
theorem Si.outs {m : M} {p o ot old ev now : Nat} (h : Si m p o ot old ev) (hn : now < 18446744073709551616) : Si (m.outs now) p o ot old ev := by
  obtain ⟨h1, h2, h3, h4, h5⟩ := outs_l m now
  refine ⟨h2.trans h.player, h3.trans h.every, by rw [h4]; exact h.ep, ⟨h1.trans h.kn.own, ?_, ?_⟩, M.outs_wf h.wf hn⟩
  · rw [h5]; exact h.kn.st
  · rw [h5, h4]; exact h.kn.ep
theorem Si.look {m : M} {p o ot old ev : Nat} (h : Si m p o ot old ev) (c : Nat) : Si (m.look c) p o ot old ev :=
  ⟨h.player, h.every, h.ep, h.kn.look c, M.look_wf h.wf⟩
/-- The two, however far they are. -/
structure In (ea eb eo ev : Nat) (r : R) : Prop where
  A : Si r.a 0 ea eb 0 ev
  B : Si r.b 1 eb ea eo ev
  ha : 1 ≤ ea
  hb : 1 ≤ eb
  ho : eo < ea
  ka : r.a.st ≠ 1 → r.b.l.epoch = ea
  kb : r.b.st ≠ 1 → r.b.l.epoch = ea → r.a.l.epoch = eb
  ca : r.ca < 18446744073709551616
  cb : r.cb < 18446744073709551616
theorem Si.out_wf {m : M} {p o ot old ev now c : Nat} (h : Si m p o ot old ev) (hp : p ≤ 1) (ho : 1 ≤ o) (hc : c < 18446744073709551616) : ∀ k ∈ m.out now c c, k.wf := by
  intro k hk
  have e1 := h.kn.own
  have e2 := h.player
  rcases out_mem hk with rfl | rfl
  · exact (told_ok h.wf.l (by omega) (by omega) hc hc (.inr rfl)).1
  · exact (told_ok h.wf.l (by omega) (by omega) hc hc (.inl rfl)).1
section
variable {ea eb eo ev now : Nat} {r : R}
theorem In.heA (h : In ea eb eo ev r) : He ea (r.a.l.epoch = eb) r.b (r.giveA now).b ∧ Kn eb (r.giveA now).b := by
  have h1 := feed_he ea r.a.l.epoch (r.a.out now r.ca r.ca) r.b r.ls h.B.kn (fun k hk => by
    obtain ⟨e1, e2⟩ := out_mem2 hk
    exact ⟨e1.trans h.A.kn.own, e2⟩)
  rw [h.B.kn.own] at h1
  exact h1
theorem In.heB (h : In ea eb eo ev r) : He eb (r.b.l.epoch = ea) r.a (r.giveB now).a ∧ Kn ea (r.giveB now).a := by
  have h1 := feed_he eb r.b.l.epoch (r.b.out now r.cb r.cb) r.a r.ls h.A.kn (fun k hk => by
    obtain ⟨e1, e2⟩ := out_mem2 hk
    exact ⟨e1.trans h.B.kn.own, e2⟩)
  rw [h.A.kn.own] at h1
  exact h1
theorem In.giveA (h : In ea eb eo ev r) (hn : now < 18446744073709551616) : In ea eb eo ev (r.giveA now) := by
  obtain ⟨h1, h2⟩ := h.heA (now := now)
  obtain ⟨_, _, _, e4, _⟩ := outs_l r.a now
  refine ⟨h.A.outs hn, h.B.he h1 h2 (feed_wf _ _ _ h.B.wf (h.A.out_wf (by decide) h.ha h.ca)), h.ha, h.hb, h.ho, ?_, ?_, h.ca, h.cb⟩
  · intro h3
    exact h1.ep2 (h.ka h3)
  · intro h3 h4
    show (r.a.outs now).l.epoch = eb
    rw [e4]
    rcases h1.st h3 with ⟨h5, h6⟩ | h5
    · exact h.kb h5 (h6.symm.trans h4)
    · exact h5
theorem In.giveB (h : In ea eb eo ev r) (hn : now < 18446744073709551616) : In ea eb eo ev (r.giveB now) := by
  obtain ⟨h1, h2⟩ := h.heB (now := now)
  obtain ⟨_, _, _, e4, _⟩ := outs_l r.b now
  refine ⟨h.A.he h1 h2 (feed_wf _ _ _ h.A.wf (h.B.out_wf (by decide) h.hb h.cb)), h.B.outs hn, h.ha, h.hb, h.ho, ?_, ?_, h.ca, h.cb⟩
  · intro h3
    show (r.b.outs now).l.epoch = ea
    rw [e4]
    rcases h1.st h3 with ⟨h5, h6⟩ | h5
    · exact h.ka h5
    · exact h5
  · intro h3 h4
    refine h1.ep2 (h.kb h3 ?_)
    rw [← e4]; exact h4
theorem look_st (m : M) (c : Nat) (h : m.goal ≤ c) : (m.look c).st = if m.st = 2 then 3 else m.st := by
  show (if m.st = 2 ∧ m.goal ≤ c then 3 else m.st) = _
  by_cases h2 : m.st = 2
  · rw [if_pos ⟨h2, h⟩, if_pos h2]
  · rw [if_neg (fun q => h2 q.1), if_neg h2]
theorem look_ne (m : M) (c : Nat) (h : m.goal ≤ c) : ((m.look c).st ≠ 1 ↔ m.st ≠ 1) ∧ (m.look c).st ≠ 2 := by
  rw [look_st m c h]
  constructor
  · split
    · next e => constructor <;> intro _ <;> omega
    · exact Iff.rfl
  · split
    · decide
    · assumption
theorem In.looks (h : In ea eb eo ev r) : In ea eb eo ev r.looks := by
  have h1 := look_ne r.a (max r.ca r.a.goal) (Nat.le_max_right ..)
  have h2 := look_ne r.b (max r.cb r.b.goal) (Nat.le_max_right ..)
  exact ⟨h.A.look _, h.B.look _, h.ha, h.hb, h.ho, fun q => h.ka (h1.1.1 q), fun q => h.kb (h2.1.1 q), Nat.max_lt.2 ⟨h.ca, h.A.wf.goal⟩, Nat.max_lt.2 ⟨h.cb, h.B.wf.goal⟩⟩
theorem In.step (h : In ea eb eo ev r) (hn : now < 18446744073709551616) : In ea eb eo ev (r.step now) := ((h.giveA hn).giveB hn).looks
end
/-- How long one waits yet, until it says Hello. -/
def wt (l : L) (now : Nat) : Nat := if l.due now = true then 0 else l.last + l.every - now
theorem due_no {l : L} {now : Nat} (h : ¬ l.due now = true) : l.urged = false ∧ l.spoke = true ∧ (l.last ≤ now → now - l.last < l.every) := by
  unfold L.due at h
  rw [Bool.or_eq_true, Bool.or_eq_true, Bool.and_eq_true, decide_eq_true_eq, decide_eq_true_eq, Bool.not_eq_true'] at h
  refine ⟨?_, ?_, ?_⟩
  · cases hu : l.urged with
    | true => exact absurd (.inl hu) h
    | false => rfl
  · cases hu : l.spoke with
    | false => exact absurd (.inr (.inl hu)) h
    | true => rfl
  · intro h1
    by_cases h2 : l.every ≤ now - l.last
    · exact absurd (.inr (.inr ⟨h1, h2⟩)) h
    · omega
theorem wt_lt {l : L} {now : Nat} (ht : l.spoke = true → l.last < now) (h0 : 0 < l.every) : wt l now + 1 ≤ l.every := by
  unfold wt
  split
  · omega
  · next h =>
    have := ht (due_no h).2.1
    omega
theorem wt_dec {l l' : L} {now : Nat} (h : ¬ l.due now = true) (hl : l'.last = l.last) (he : l'.every = l.every) (h0 : 0 < l.every) : wt l' (now + 1) + 1 ≤ wt l now := by
  have h1 := (due_no h).2.2
  have h2 : wt l now = l.last + l.every - now := if_neg h
  rw [h2]
  unfold wt
  split
  · by_cases h3 : l.last ≤ now
    · have := h1 h3; omega
    · omega
  · rw [hl, he]
    by_cases h3 : l.last ≤ now
    · have := h1 h3; omega
    · omega
/-- How far the two are from Running both. -/
def phi (ev now : Nat) (r : R) : Nat :=
  if r.a.st = 1 then r.ls.length * ev + (wt r.a.l now + ev + 2) else if r.b.st = 1 then r.ls.length * ev + (if r.ls.length = 0 ∧ r.a.owes = true then 1 else wt r.b.l now + 2) else 0
theorem outs_t (m : M) (now : Nat) (h : m.l.spoke = true → m.l.last < now) : (m.outs now).l.spoke = true → (m.outs now).l.last < now + 1 := by
  show (if m.says now = true then m.l.sent now else m.l).spoke = true → (if m.says now = true then m.l.sent now else m.l).last < now + 1
  split
  · intro _
    exact Nat.lt_succ_self _
  · intro q
    have := h q
    omega
theorem out_len (m : M) (now c : Nat) (h : (m.out now c c).length = 0) : m.owes = false ∧ m.says now = false ∧ m.out now c c = [] := by
  have h1 : m.out now c c = [] := List.eq_nil_of_length_eq_zero h
  refine ⟨?_, ?_, h1⟩
  · cases hq : m.owes with
    | false => rfl
    | true => exfalso; unfold M.out at h1; rw [if_pos hq] at h1; cases h1
  · cases hq : m.says now with
    | false => rfl
    | true =>
      exfalso
      unfold M.out at h1
      rw [if_pos hq] at h1
      have := congrArg List.length h1
      rw [List.length_append] at this
      simp at this
theorem outs_no (m : M) (now : Nat) (h : m.says now = false) : (m.outs now).l = m.l := by
  show (if m.says now = true then m.l.sent now else m.l) = m.l
  rw [h]; rfl
theorem says_no (m : M) (now : Nat) (hs : m.st = 1) (h : ¬ m.says now = true) : ¬ m.l.due now = true := by
  intro q
  apply h
  unfold M.says
  rw [decide_eq_true hs, q]; rfl
section
variable {ea eb eo ev now : Nat} {r : R}
/-- Each round brings the two nearer. -/
theorem phi_step (h : In ea eb eo ev r) (hn : now < 18446744073709551616) (ta : r.a.l.spoke = true → r.a.l.last < now) (tb : r.b.l.spoke = true → r.b.l.last < now) :
    (phi ev (now + 1) (r.step now) + 1 ≤ phi ev now r ∨ phi ev (now + 1) (r.step now) = 0) ∧ ((r.step now).a.l.spoke = true → (r.step now).a.l.last < now + 1) ∧ ((r.step now).b.l.spoke = true → (r.step now).b.l.last < now + 1) := by
  have I1 := h.giveA hn
  have I2 := I1.giveB hn
  obtain ⟨p1, p2⟩ := h.heA (now := now)
  obtain ⟨q1, q2⟩ := I1.heB (now := now)
  obtain ⟨ao, ap, av, ae, am⟩ := outs_l r.a now
  obtain ⟨bo, bp, bv, be, bm⟩ := outs_l (r.giveA now).b now
  have hev : 0 < ev := by rw [← h.A.every]; exact h.A.wf.l.every
  -- the parts of the round's end
  have la := look_ne ((r.giveA now).giveB now).a (max ((r.giveA now).giveB now).ca ((r.giveA now).giveB now).a.goal) (Nat.le_max_right ..)
  have lb := look_ne ((r.giveA now).giveB now).b (max ((r.giveA now).giveB now).cb ((r.giveA now).giveB now).b.goal) (Nat.le_max_right ..)
  have sa : ((r.step now).a.st = 1 ↔ ((r.giveA now).giveB now).a.st = 1) := by
    have := la.1
    constructor
    · intro e; exact Classical.byContradiction fun f => this.2 f e
    · intro e; exact Classical.byContradiction fun f => this.1 f e
  have sb : ((r.step now).b.st = 1 ↔ (r.giveA now).b.st = 1) := by
    have : ((r.step now).b.st ≠ 1 ↔ (r.giveA now).b.st ≠ 1) := lb.1
    constructor
    · intro e; exact Classical.byContradiction fun f => this.2 f e
    · intro e; exact Classical.byContradiction fun f => this.1 f e
  have wa : (r.step now).a.l = ((r.giveA now).giveB now).a.l := rfl
  have wb : (r.step now).b.l = ((r.giveA now).b.outs now).l := rfl
  have oa : (r.step now).a.owes = ((r.giveA now).giveB now).a.owes := rfl
  have ll : (r.step now).ls = (r.ls.drop (r.a.out now r.ca r.ca).length).drop ((r.giveA now).b.out now r.cb r.cb).length := rfl
  have Ta : (r.step now).a.l.spoke = true → (r.step now).a.l.last < now + 1 := by
    rw [wa, q1.spoke, q1.last]
    exact outs_t r.a now ta
  have Tb : (r.step now).b.l.spoke = true → (r.step now).b.l.last < now + 1 := by
    rw [wb]
    exact outs_t _ now (by rw [p1.spoke, p1.last]; exact tb)
  refine ⟨?_, Ta, Tb⟩
  have va : (r.step now).a.l.every = ev := I2.A.every
  have vb : (r.step now).b.l.every = ev := I2.B.every
  have ba := wt_lt Ta (by rw [va]; exact hev)
  have bb := wt_lt Tb (by rw [vb]; exact hev)
  rw [va] at ba
  rw [vb] at bb
  -- what is known of one that is not Resuming
  have stay : r.a.st ≠ 1 → (r.step now).a.st ≠ 1 := by
    intro e
    have e1 : r.a.l.epoch = eb := by
      rcases h.A.ep with f | f
      · exact f
      · exact absurd f (h.A.kn.ep (h.A.kn.st.1 e))
    intro f
    have := q1.same e (ae.trans e1)
    rw [sa.1 f] at this
    exact e this.symm
  have stayb : r.a.st ≠ 1 → r.b.st ≠ 1 → (r.step now).b.st ≠ 1 := by
    intro e e1 f
    have := p1.same e1 (h.ka e)
    rw [sb.1 f] at this
    exact e1 this.symm
  have epa : r.b.l.epoch ≤ ea := by
    rcases h.B.ep with e | e
    · omega
    · have := h.ho; omega
  have epb : r.a.l.epoch ≤ eb := by
    rcases h.A.ep with e | e <;> omega
  have up : (r.step now).a.st ≠ 1 → phi ev (now + 1) (r.step now) ≤ (r.step now).ls.length * ev + (ev + 1) := by
    intro e
    unfold phi
    rw [if_neg e]
    split
    · split
      · omega
      · omega
    · omega
  have up1 : phi ev (now + 1) (r.step now) ≤ (r.step now).ls.length * ev + (ev + ev + 1) := by
    by_cases e : (r.step now).a.st = 1
    · unfold phi
      rw [if_pos e]
      omega
    · have := up e
      omega
  have up2 : (r.step now).a.st ≠ 1 → (r.step now).b.st ≠ 1 → phi ev (now + 1) (r.step now) = 0 := by
    intro e f
    unfold phi
    rw [if_neg e, if_neg f]
  -- one that does not say Hello waits less
  have lessa : r.a.st = 1 → r.a.says now = false → wt (r.step now).a.l (now + 1) + 1 ≤ wt r.a.l now := by
    intro e f
    refine wt_dec (says_no r.a now e (by rw [f]; decide)) ?_ (va.trans h.A.every.symm) (by rw [h.A.every]; exact hev)
    rw [wa, q1.last]
    show (r.a.outs now).l.last = _
    rw [outs_no _ _ f]
  have lessb : r.b.st = 1 → (r.giveA now).b = r.b → r.b.says now = false → wt (r.step now).b.l (now + 1) + 1 ≤ wt r.b.l now := by
    intro e g f
    refine wt_dec (says_no r.b now e (by rw [f]; decide)) ?_ (vb.trans h.B.every.symm) (by rw [h.B.every]; exact hev)
    rw [wb, g, outs_no _ _ f]
  by_cases hN : r.ls = []
  · have hN2 : (r.step now).ls = [] := by rw [ll, hN]; simp
    have hf : (r.giveA now).b = feed r.b (r.a.out now r.ca r.ca) [] := by
      show feed r.b (r.a.out now r.ca r.ca) r.ls = _
      rw [hN]
    have hg : ((r.giveA now).giveB now).a = feed (r.a.outs now) ((r.giveA now).b.out now r.cb r.cb) [] := by
      show feed (r.a.outs now) ((r.giveA now).b.out now r.cb r.cb) (r.ls.drop _) = _
      rw [hN]; simp
    by_cases ha : r.a.st = 1
    · have hp : phi ev now r = r.ls.length * ev + (wt r.a.l now + ev + 2) := by unfold phi; rw [if_pos ha]
      by_cases hs : r.a.says now = true
      · obtain ⟨c1, c2, c3⟩ := feed_says (now := now) (c := r.ca) h.A.wf (by rw [h.A.player]; decide) (by rw [h.A.kn.own]; have := h.ha; omega) h.ca (by rw [h.A.player, h.B.player]; decide) (by rw [h.A.kn.own]; exact epa) h.B.kn hs
        rw [← hf] at c1 c2
        have c4 := feed_owes (x := (r.giveA now).b) (y := r.a.outs now) (now := now) (c := r.cb) I1.B.wf (by rw [I1.B.player]; decide) (by rw [I1.B.kn.own]; have := h.hb; omega) h.cb (by rw [I1.B.player, ap, h.A.player]; decide) (by rw [ae, I1.B.kn.own]; exact epb) I1.A.kn c2 (by rw [c1, ao]) (by rw [c1, h.A.kn.own]; have := h.ha; omega)
        rw [← hg] at c4
        have := up (fun e => c4 (sa.1 e))
        rw [hN2] at this
        rw [hp, hN]
        simp only [List.length_nil, Nat.zero_mul] at this ⊢
        omega
      · have hs' : r.a.says now = false := by
          cases hq : r.a.says now with
          | true => exact absurd hq hs
          | false => rfl
        by_cases h2 : (r.step now).a.st = 1
        · have e1 := lessa ha hs'
          have hp2 : phi ev (now + 1) (r.step now) = (r.step now).ls.length * ev + (wt (r.step now).a.l (now + 1) + ev + 2) := by unfold phi; rw [if_pos h2]
          rw [hp, hp2, hN2, hN]
          omega
        · have := up h2
          rw [hN2] at this
          rw [hp, hN]
          simp only [List.length_nil, Nat.zero_mul] at this ⊢
          omega
    · have h2 := stay ha
      by_cases hb : r.b.st = 1
      · have hp : phi ev now r = r.ls.length * ev + (if r.ls.length = 0 ∧ r.a.owes = true then 1 else wt r.b.l now + 2) := by unfold phi; rw [if_neg ha, if_pos hb]
        have eab : r.a.l.epoch = eb := by
          rcases h.A.ep with f | f
          · exact f
          · exact absurd f (h.A.kn.ep (h.A.kn.st.1 ha))
        by_cases ho : r.a.owes = true
        · have c4 := feed_owes (x := r.a) (y := r.b) (now := now) (c := r.ca) h.A.wf (by rw [h.A.player]; decide) (by rw [h.A.kn.own]; have := h.ha; omega) h.ca (by rw [h.A.player, h.B.player]; decide) (by rw [h.A.kn.own]; exact epa) h.B.kn ho (by rw [eab, h.B.kn.own]) (by rw [eab]; have := h.hb; omega)
          rw [← hf] at c4
          exact .inr (up2 h2 (fun e => c4 (sb.1 e)))
        · have hsa : r.a.says now = false := by unfold M.says; rw [decide_eq_false ha]; rfl
          have hla : r.a.out now r.ca r.ca = [] := by unfold M.out; rw [if_neg ho, hsa]; rfl
          have hb1 : (r.giveA now).b = r.b := by rw [hf, hla]; rfl
          rw [if_neg (fun q => ho q.2)] at hp
          by_cases hs : r.b.says now = true
          · obtain ⟨c1, c2, c3⟩ := feed_says (x := r.b) (y := r.a.outs now) (now := now) (c := r.cb) h.B.wf (by rw [h.B.player]; decide) (by rw [h.B.kn.own]; have := h.hb; omega) h.cb (by rw [h.B.player, ap, h.A.player]; decide) (by rw [ae, h.B.kn.own]; exact epb) I1.A.kn hs
            rw [hb1] at hg
            rw [← hg, ← oa] at c2
            have : phi ev (now + 1) (r.step now) ≤ 1 := by
              unfold phi
              rw [if_neg h2, if_pos (show (r.step now).ls.length = 0 ∧ (r.step now).a.owes = true from ⟨by rw [hN2]; rfl, c2⟩), hN2]
              simp only [List.length_nil, Nat.zero_mul]
              split <;> omega
            rw [hp]
            omega
          · have hs' : r.b.says now = false := by
              cases hq : r.b.says now with
              | true => exact absurd hq hs
              | false => rfl
            have e1 := lessb hb hb1 hs'
            have : phi ev (now + 1) (r.step now) ≤ wt (r.step now).b.l (now + 1) + 2 := by
              unfold phi
              rw [if_neg h2, hN2]
              simp only [List.length_nil, Nat.zero_mul]
              split
              · split <;> omega
              · omega
            rw [hp]
            omega
      · exact .inr (up2 h2 (stayb ha hb))
  · have hN0 : 0 < r.ls.length := List.length_pos_iff.2 hN
    by_cases hq : (r.a.out now r.ca r.ca).length + ((r.giveA now).b.out now r.cb r.cb).length = 0
    · obtain ⟨o1, o2, o3⟩ := out_len r.a now r.ca (by omega)
      have hb1 : (r.giveA now).b = r.b := by show feed r.b (r.a.out now r.ca r.ca) r.ls = _; rw [o3]; rfl
      obtain ⟨o4, o5, o6⟩ := out_len (r.giveA now).b now r.cb (by omega)
      rw [hb1] at o5
      have hl2 : (r.step now).ls = r.ls := by rw [ll, o3, o6]; rfl
      have ha2 : (r.step now).a.st = 1 ↔ r.a.st = 1 := by
        rw [sa]
        show (feed (r.a.outs now) ((r.giveA now).b.out now r.cb r.cb) _).st = 1 ↔ _
        rw [o6]
        exact Iff.rfl
      by_cases ha : r.a.st = 1
      · have e1 := lessa ha o2
        have hp : phi ev now r = r.ls.length * ev + (wt r.a.l now + ev + 2) := by unfold phi; rw [if_pos ha]
        have hp2 : phi ev (now + 1) (r.step now) = (r.step now).ls.length * ev + (wt (r.step now).a.l (now + 1) + ev + 2) := by unfold phi; rw [if_pos (ha2.2 ha)]
        rw [hp, hp2, hl2]
        omega
      · have h2 := stay ha
        by_cases hb : r.b.st = 1
        · have e1 := lessb hb hb1 o5
          have hp : phi ev now r = r.ls.length * ev + (wt r.b.l now + 2) := by unfold phi; rw [if_neg ha, if_pos hb, if_neg (fun q => by omega)]
          have hp2 : phi ev (now + 1) (r.step now) ≤ r.ls.length * ev + (wt (r.step now).b.l (now + 1) + 2) := by
            unfold phi
            rw [if_neg h2, hl2]
            split
            · rw [if_neg (fun q => by omega)]; omega
            · omega
          rw [hp]
          omega
        · exact .inr (up2 h2 (stayb ha hb))
    · have hl2 : (r.step now).ls.length + 1 ≤ r.ls.length := by
        rw [ll, List.length_drop, List.length_drop]
        omega
      have hm : (r.step now).ls.length * ev + ev ≤ r.ls.length * ev := by
        have := Nat.mul_le_mul_right ev hl2
        rw [Nat.add_mul, Nat.one_mul] at this
        exact this
      by_cases ha : r.a.st = 1
      · have hp : phi ev now r = r.ls.length * ev + (wt r.a.l now + ev + 2) := by unfold phi; rw [if_pos ha]
        rw [hp]
        omega
      · have h2 := stay ha
        by_cases hb : r.b.st = 1
        · have hp : phi ev now r = r.ls.length * ev + (wt r.b.l now + 2) := by unfold phi; rw [if_neg ha, if_pos hb, if_neg (fun q => by omega)]
          have := up h2
          rw [hp]
          omega
        · exact .inr (up2 h2 (stayb ha hb))
theorem go_phi : ∀ (n now : Nat) (r : R), In ea eb eo ev r → now + n ≤ 18446744073709551615 → (r.a.l.spoke = true → r.a.l.last < now) → (r.b.l.spoke = true → r.b.l.last < now) → phi ev now r ≤ n →
    In ea eb eo ev (R.go now n r) ∧ ((R.go now n r).a.st ≠ 1 ∧ (R.go now n r).b.st ≠ 1) ∧ ((R.go now n r).b.l.spoke = true → (R.go now n r).b.l.last < now + n)
  | 0, now, r, hi, hn, ta, tb, hp => by
    refine ⟨hi, ?_, tb⟩
    show r.a.st ≠ 1 ∧ r.b.st ≠ 1
    unfold phi at hp
    split at hp
    · omega
    · next e =>
      refine ⟨e, ?_⟩
      split at hp
      · split at hp <;> omega
      · assumption
  | n + 1, now, r, hi, hn, ta, tb, hp => by
    obtain ⟨h1, h2, h3⟩ := phi_step hi (by omega) ta tb
    have := go_phi n (now + 1) (r.step now) (hi.step (by omega)) (by omega) h2 h3 (by omega)
    rw [show now + (n + 1) = now + 1 + n by omega]
    exact this
end
theorem make_si {p e ot old ev : Nat} (hp : p < 256) (he : e < 18446744073709551616) (h1 : 0 < ev) (h2 : ev ≤ 16) (ho : ot = 0 ∨ old = 0) : Si (M.make p e ev) p e ot old ev :=
  ⟨rfl, rfl, by rcases ho with h | h; exact .inl h.symm; exact .inr h.symm, ⟨rfl, ⟨fun h => absurd rfl h, fun h => by cases h⟩, fun h => by cases h⟩, M.make_wf hp he h1 h2⟩
theorem go_ne {ea eb eo ev : Nat} : ∀ (n now : Nat) (r : R), In ea eb eo ev r → now + n ≤ 18446744073709551615 → (r.a.st ≠ 2 ∧ r.b.st ≠ 2) → (R.go now n r).a.st ≠ 2 ∧ (R.go now n r).b.st ≠ 2
  | 0, _, r, _, _, h => h
  | n + 1, now, r, hi, hn, _ => go_ne n (now + 1) (r.step now) (hi.step (by omega)) (by omega) ⟨(look_ne _ _ (Nat.le_max_right ..)).2, (look_ne _ _ (Nat.le_max_right ..)).2⟩
theorem st_three {m : M} (h : m.wf) (h1 : m.st ≠ 1) (h2 : m.st ≠ 2) : m.st = 3 := by
  have := h.st
  omega
theorem phi_le {ea eb eo ev now : Nat} {r : R} (h : In ea eb eo ev r) (ta : r.a.l.spoke = true → r.a.l.last < now) : phi ev now r ≤ (r.ls.length + 4) * ev + 8 ∨ r.a.st ≠ 1 := by
  by_cases ha : r.a.st = 1
  · left
    have hev : 0 < ev := by rw [← h.A.every]; exact h.A.wf.l.every
    have := wt_lt ta (by rw [h.A.every]; exact hev)
    rw [h.A.every] at this
    unfold phi
    rw [if_pos ha, Nat.add_mul]
    omega
  · exact .inr ha
/-- The two at first. -/
def R.zero (e0 e1 ev c0 c1 : Nat) (l : List Bool) : R := ⟨M.make 0 e0 ev, M.make 1 e1 ev, c0, c1, l⟩
/-- The one that is begun anew, and the other one. -/
def R.anew (r : R) (e2 ev c0 : Nat) (l : List Bool) : R := ⟨M.make 0 e2 ev, r.b, c0, r.cb, l⟩
section
variable {e0 e1 e2 ev c0 c1 n : Nat} {l1 l2 : List Bool}
theorem zero_in (h0 : 1 ≤ e0) (h1 : 1 ≤ e1) (b0 : e0 < 18446744073709551616) (b1 : e1 < 18446744073709551616) (hv : 0 < ev) (hv2 : ev ≤ 16) (hc0 : c0 < 18446744073709551616) (hc1 : c1 < 18446744073709551616) : In e0 e1 0 ev (R.zero e0 e1 ev c0 c1 l1) :=
  ⟨make_si (by decide) b0 hv hv2 (.inr rfl), make_si (by decide) b1 hv hv2 (.inr rfl), h0, h1, h0, fun h => absurd rfl h, fun h => absurd rfl h, hc0, hc1⟩
/-- Both get to Running. -/
theorem first_law (h0 : 1 ≤ e0) (h1 : 1 ≤ e1) (b0 : e0 < 18446744073709551616) (b1 : e1 < 18446744073709551616) (hv : 0 < ev) (hv2 : ev ≤ 16) (hc0 : c0 < 18446744073709551616) (hc1 : c1 < 18446744073709551616) (hl : l1.length ≤ 40) (hn : n = (l1.length + 4) * ev + 8) :
    In e0 e1 0 ev (R.go 0 n (R.zero e0 e1 ev c0 c1 l1)) ∧ (R.go 0 n (R.zero e0 e1 ev c0 c1 l1)).a.st = 3 ∧ (R.go 0 n (R.zero e0 e1 ev c0 c1 l1)).b.st = 3 ∧ ((R.go 0 n (R.zero e0 e1 ev c0 c1 l1)).b.l.spoke = true → (R.go 0 n (R.zero e0 e1 ev c0 c1 l1)).b.l.last < n) ∧ n ≤ 712 := by
  have hi := zero_in (l1 := l1) h0 h1 b0 b1 hv hv2 hc0 hc1
  have hb : n ≤ 712 := by
    have := Nat.mul_le_mul (show l1.length + 4 ≤ 44 by omega) hv2
    omega
  have hp : phi ev 0 (R.zero e0 e1 ev c0 c1 l1) ≤ n := by
    rcases phi_le (now := 0) hi (fun h => by cases h) with h | h
    · rw [hn]; exact h
    · exact absurd rfl h
  obtain ⟨g1, ⟨g2, g3⟩, g4⟩ := go_phi n 0 _ hi (by omega) (fun h => by cases h) (fun h => by cases h) hp
  obtain ⟨g5, g6⟩ := go_ne n 0 _ hi (by omega) ⟨(by decide : (1 : Nat) ≠ 2), (by decide : (1 : Nat) ≠ 2)⟩
  exact ⟨g1, st_three g1.A.wf g2 g5, st_three g1.B.wf g3 g6, fun h => by have := g4 h; omega, hb⟩
theorem anew_in {r : R} (hi : In e0 e1 0 ev r) (hb : r.b.st = 3) (b2 : e2 < 18446744073709551616) (h2 : e0 < e2) (hc0 : c0 < 18446744073709551616) : In e2 e1 e0 ev (r.anew e2 ev c0 l2) := by
  have hev : 0 < ev := by rw [← hi.A.every]; exact hi.A.wf.l.every
  have hev2 : ev ≤ 16 := by rw [← hi.A.every]; exact hi.A.wf.l.every16
  have hs : r.b.st ≠ 1 := by rw [hb]; decide
  have he : r.b.l.epoch = e0 := by
    rcases hi.B.ep with e | e
    · exact e
    · exact absurd e (hi.B.kn.ep (hi.B.kn.st.1 hs))
  refine ⟨make_si (by decide) b2 hev hev2 (.inr rfl), ⟨hi.B.player, hi.B.every, .inr he, hi.B.kn, hi.B.wf⟩, by omega, hi.hb, h2, fun h => absurd rfl h, ?_, hc0, hi.cb⟩
  intro _ h
  exfalso
  have h' : r.b.l.epoch = e2 := h
  omega
/-- Both get to Running again, and know each other. -/
theorem again_law {r : R} {now : Nat} (hi : In e0 e1 0 ev r) (hb : r.b.st = 3) (hs : r.b.l.spoke = true → r.b.l.last < now) (hnow : now ≤ 712) (b2 : e2 < 18446744073709551616) (h2 : e0 < e2) (hc0 : c0 < 18446744073709551616) (hl : l2.length ≤ 40) (hn : n = (l2.length + 4) * ev + 8) :
    In e2 e1 e0 ev (R.go now n (r.anew e2 ev c0 l2)) ∧ (R.go now n (r.anew e2 ev c0 l2)).a.st = 3 ∧ (R.go now n (r.anew e2 ev c0 l2)).b.st = 3 ∧ (R.go now n (r.anew e2 ev c0 l2)).b.l.epoch = e2 ∧ (R.go now n (r.anew e2 ev c0 l2)).a.l.epoch = e1 ∧ n ≤ 712 := by
  have hv2 : ev ≤ 16 := by rw [← hi.A.every]; exact hi.A.wf.l.every16
  have hq := anew_in (l2 := l2) hi hb b2 h2 hc0
  have hb' : n ≤ 712 := by
    have := Nat.mul_le_mul (show l2.length + 4 ≤ 44 by omega) hv2
    omega
  have hp : phi ev now (r.anew e2 ev c0 l2) ≤ n := by
    rcases phi_le (now := now) hq (fun h => by cases h) with h | h
    · rw [hn]; exact h
    · exact absurd rfl h
  obtain ⟨g1, ⟨g2, g3⟩, g4⟩ := go_phi n now _ hq (by omega) (fun h => by cases h) hs hp
  obtain ⟨g5, g6⟩ := go_ne n now _ hq (by omega) ⟨(by decide : (1 : Nat) ≠ 2), by show r.b.st ≠ 2; rw [hb]; decide⟩
  exact ⟨g1, st_three g1.A.wf g2 g5, st_three g1.B.wf g3 g6, g1.ka g2, g1.kb g3 (g1.ka g2), hb'⟩
end
end Go.Proofs.YtdgbililgkhjfaaDoor.Rs
namespace Go.Proofs.YtdgbililgkhjfaaDoor.Rs
open Go.RowKit Go.Proofs.YtdgbililgkhjfaaDoor.Crc Go.Proofs.YtdgbililgkhjfaaDoor.Codec Go.Proofs.YtdgbililgkhjfaaDoor.Pk Go.Proofs.YtdgbililgkhjfaaDoor.CrcWalk Go.Proofs.YtdgbililgkhjfaaDoor.Frame
open Go.Proofs.YtdgbililgkhjfaaDoor.Lk (L lc nS mayL far_blk range_below)
set_option linter.unusedVariables false
set_option linter.unusedSimpArgs false
abbrev DT := 103
/-- What may change: the blocks of S; of the others nothing below B. -/
structure Fs (B : Nat) (S : Nat → Prop) (w w' : World) : Prop where
  os : w'.os = w.os
  tape : w'.tape = w.tape
  output : w'.output = w.output
  size : w.heap.size ≤ w'.heap.size
  block : ∀ k, k < B → ¬ S k → w'.heap[k]? = w.heap[k]?
theorem Fs.refl (B : Nat) (S : Nat → Prop) (w : World) : Fs B S w w := ⟨rfl, rfl, rfl, Nat.le_refl _, fun _ _ _ => rfl⟩
theorem Fs.trans {B : Nat} {S : Nat → Prop} {a b c : World} (h : Fs B S a b) (k : Fs B S b c) : Fs B S a c :=
  ⟨k.os.trans h.os, k.tape.trans h.tape, k.output.trans h.output, Nat.le_trans h.size k.size, fun i hi hp => (k.block i hi hp).trans (h.block i hi hp)⟩
theorem Fs.below {B B' : Nat} {S : Nat → Prop} {w w' : World} (h : Below B' w w') (hb : B ≤ B') : Fs B S w w' := ⟨h.os, h.tape, h.output, h.size, fun k hk _ => h.block k (by omega)⟩
theorem Fs.kq {B B' p q : Nat} {S : Nat → Prop} {w w' : World} (h : Kq B' p q w w') (hb : B ≤ B') (hp : S p) (hq : S q) : Fs B S w w' :=
  ⟨h.os, h.tape, h.output, h.size, fun k hk hs => h.block k (by omega) (fun e => hs (e ▸ hp)) (fun e => hs (e ▸ hq))⟩
theorem Fs.to {B B' : Nat} {S : Nat → Prop} {w w' : World} (h : Fs B S w w') (hb : B' ≤ B) (hs : ∀ k, S k → B' ≤ k) : Below B' w w' :=
  ⟨h.os, h.tape, h.output, h.size, fun k hk => h.block k (by omega) (fun e => by have := hs k e; omega)⟩
theorem Fs.drew {B : Nat} {S : Nat → Prop} {w w' : World} (h : Fs B S w w') : Fs B S w w'.drew := ⟨h.os, h.tape, h.output, h.size, h.block⟩
theorem Fs.sub {B : Nat} {S S' : Nat → Prop} {w w' : World} (h : Fs B S w w') (hs : ∀ k, S k → S' k) : Fs B S' w w' := ⟨h.os, h.tape, h.output, h.size, fun k hk e => h.block k hk (fun q => e (hs k q))⟩
theorem Fs.blk {B g : Nat} {S : Nat → Prop} {w w' : World} {cs : Array Value} {t : TypeId} (h : Fs B S w w') (hb : Blk w g cs t) (hg : g < B) (h1 : ¬ S g) : Blk w' g cs t := (h.block g hg h1).trans hb
theorem Fs.set {B : Nat} {S : Nat → Prop} {w w' : World} (h : Fs B S w w') {g : Nat} (hg : S g) (off : Nat) (v : Value) : Fs B S w (w'.setCell ⟨g, off, none⟩ v) :=
  h.trans (Fs.kq (kq_kp' (q := g) ((Kp.refl B g w').setCell ⟨g, off, none⟩ rfl v)) (Nat.le_refl _) hg hg)
/-- A side's cells. -/
def dc (gm c : Nat) : Array Value := #[.pointer (some ⟨gm, 0, none⟩), .int .u64 c]
def S6 (sa gm gl sb hm hl k : Nat) : Prop := k = sa ∨ k = gm ∨ k = gl ∨ k = sb ∨ k = hm ∨ k = hl
theorem S6.swap {sa gm gl sb hm hl k : Nat} (h : S6 sa gm gl sb hm hl k) : S6 sb hm hl sa gm gl k := by
  unfold S6 at *
  omega
/-- Two sides and their machines. -/
structure Two (sa gm gl sb hm hl : Nat) (a b : M) (ca cb : Nat) (W : World) : Prop where
  p : Mb gm gl a W
  q : Mb hm hl b W
  x : Blk W sa (dc gm ca) DT
  y : Blk W sb (dc hm cb) DT
  n1 : gm ≠ hm
  n2 : gl ≠ hl
  n3 : sa ≠ sb
theorem blk_ne {W : World} {g h : Nat} {cs ds : Array Value} {t u : TypeId} (a : Blk W g cs t) (b : Blk W h ds u) (hn : t ≠ u) : g ≠ h := by
  rintro rfl
  have e : some (Obj.cells cs t (0, 0)) = some (Obj.cells ds u (0, 0)) := a.symm.trans b
  injection e with e1
  injection e1 with e2 e3 e4
  exact hn e3
section
variable {w W W' : World} {sa gm gl sb hm hl : Nat} {a b : M} {ca cb : Nat}
theorem Two.swap (d : Two sa gm gl sb hm hl a b ca cb W) : Two sb hm hl sa gm gl b a cb ca W := ⟨d.q, d.p, d.y, d.x, d.n1.symm, d.n2.symm, d.n3.symm⟩
theorem Two.call (d : Two sa gm gl sb hm hl a b ca cb W) (hb : Below W.heap.size W W') : Two sa gm gl sb hm hl a b ca cb W' :=
  ⟨d.p.call hb, d.q.call hb, (hb.block _ d.x.lt).trans d.x, (hb.block _ d.y.lt).trans d.y, d.n1, d.n2, d.n3⟩
theorem Two.ne (d : Two sa gm gl sb hm hl a b ca cb W) : gm ≠ hl ∧ gl ≠ hm ∧ sa ≠ gm ∧ sa ≠ gl ∧ sa ≠ hm ∧ sa ≠ hl ∧ sb ≠ gm ∧ sb ≠ gl ∧ sb ≠ hm ∧ sb ≠ hl :=
  ⟨blk_ne d.p.a d.q.b (by decide), blk_ne d.p.b d.q.a (by decide), blk_ne d.x d.p.a (by decide), blk_ne d.x d.p.b (by decide), blk_ne d.x d.q.a (by decide), blk_ne d.x d.q.b (by decide), blk_ne d.y d.p.a (by decide), blk_ne d.y d.p.b (by decide), blk_ne d.y d.q.a (by decide), blk_ne d.y d.q.b (by decide)⟩
theorem Two.lt (d : Two sa gm gl sb hm hl a b ca cb W) : gm < W.heap.size ∧ gl < W.heap.size ∧ hm < W.heap.size ∧ hl < W.heap.size ∧ sa < W.heap.size ∧ sb < W.heap.size := ⟨d.p.a.lt, d.p.b.lt, d.q.a.lt, d.q.b.lt, d.x.lt, d.y.lt⟩
theorem Two.atB {b' : M} (d : Two sa gm gl sb hm hl a b ca cb W) (hq : Mb hm hl b' W') (hk : Kq W.heap.size hm hl W W') : Two sa gm gl sb hm hl a b' ca cb W' := by
  obtain ⟨e1, e2, e3, e4, e5, e6, e7, e8, e9, e10⟩ := d.ne
  exact ⟨⟨Kq.blk hk d.p.a d.p.a.lt d.n1 e1, Kq.blk hk d.p.b d.p.b.lt e2 d.n2, d.p.ne⟩, hq, Kq.blk hk d.x d.x.lt e5 e6, Kq.blk hk d.y d.y.lt e9 e10, d.n1, d.n2, d.n3⟩
theorem Two.atA {a' : M} (d : Two sa gm gl sb hm hl a b ca cb W) (hp : Mb gm gl a' W') (hk : Kq W.heap.size gm gl W W') : Two sa gm gl sb hm hl a' b ca cb W' := (d.swap.atB hp hk).swap
theorem Two.countA (d : Two sa gm gl sb hm hl a b ca cb W) (c : Nat) : Two sa gm gl sb hm hl a b c cb (W.setCell ⟨sa, 1, none⟩ (.int .u64 c)) := by
  obtain ⟨e1, e2, e3, e4, e5, e6, e7, e8, e9, e10⟩ := d.ne
  exact ⟨⟨far_blk d.p.a e3 _ _, far_blk d.p.b e4 _ _, d.p.ne⟩, ⟨far_blk d.q.a e5 _ _, far_blk d.q.b e6 _ _, d.q.ne⟩, d.x.set (off := 1) (.int .u64 c), far_blk d.y d.n3 _ _, d.n1, d.n2, d.n3⟩
theorem Two.drew (d : Two sa gm gl sb hm hl a b ca cb W) : Two sa gm gl sb hm hl a b ca cb W.drew := d.call (Below.refl _ _).drew
end
/-- A slice of flags. -/
def Bls (W : World) (v : Value) (ls : List Bool) : Prop := ∃ p c, v = .slice p ls.length c ∧ ls.length ≤ c ∧ ∀ i (h : i < ls.length), ∃ g o, p = some ⟨g, o, none⟩ ∧ g < W.heap.size ∧ W.cell? ⟨g, o + i, none⟩ = some (.bool ls[i])
theorem Bls.below {W W' : World} {v : Value} {ls : List Bool} (h : Bls W v ls) (hb : Below W.heap.size W W') : Bls W' v ls := by
  obtain ⟨p, c, hv, hn, hc⟩ := h
  refine ⟨p, c, hv, hn, fun i hi => ?_⟩
  obtain ⟨g, o, e1, e2, e3⟩ := hc i hi
  exact ⟨g, o, e1, Nat.lt_of_lt_of_le e2 hb.size, (hb.cell (p := ⟨g, o + i, none⟩) e2).trans e3⟩
/-- The first flag is taken off. -/
theorem Bls.tail {W : World} {g o c : Nat} {x : Bool} {ls : List Bool} (h : Bls W (.slice (some ⟨g, o, none⟩) (ls.length + 1) c) (x :: ls)) : Bls W (.slice (if c = 1 then some ⟨g, o, none⟩ else some ⟨g, o + 1, none⟩) ls.length (c - 1)) ls := by
  obtain ⟨p', c', hv, hn, hc⟩ := h
  injection hv with e1 e2 e3
  subst e1; subst e3
  have hn' : ls.length + 1 ≤ c := hn
  refine ⟨_, _, rfl, by omega, fun i hi => ?_⟩
  obtain ⟨g1, o1, f1, f2, f3⟩ := hc (i + 1) (by simp; omega)
  injection f1 with f4
  injection f4 with f5 f6
  subst f5; subst f6
  rw [if_neg (by omega)]
  refine ⟨g, o + 1, rfl, f2, ?_⟩
  rw [show o + 1 + i = o + (i + 1) by omega]
  exact f3
/-- The first flag. -/
theorem Bls.head {W : World} {v : Value} {x : Bool} {ls : List Bool} (h : Bls W v (x :: ls)) : ∃ g o c, v = .slice (some ⟨g, o, none⟩) (ls.length + 1) c ∧ W.cell? ⟨g, o, none⟩ = some (.bool x) := by
  obtain ⟨p, c, hv, hn, hc⟩ := h
  obtain ⟨g, o, e1, e2, e3⟩ := hc 0 (by simp)
  subst e1
  exact ⟨g, o, c, hv, e3⟩
/-- The list that is told, in memory, while the other one hears it. -/
structure Gv (w0 : World) (sa gm gl sb hm hl : Nat) (a b : M) (ca cb : Nat) (v : Value) (ks : List K) (W : World) : Prop where
  t : Two sa gm gl sb hm hl a b ca cb W
  f : Fs w0.heap.size (S6 sa gm gl sb hm hl) w0 W
  own : ∃ B, W.ownsRow B PT 11 v ks.length (pks ks) ∧ hm < B ∧ hl < B
theorem Gv.call {w0 W W' : World} {sa gm gl sb hm hl ca cb : Nat} {a b : M} {v : Value} {ks : List K} (d : Gv w0 sa gm gl sb hm hl a b ca cb v ks W) (hb : Below W.heap.size W W') : Gv w0 sa gm gl sb hm hl a b ca cb v ks W' := by
  obtain ⟨B, h, h1, h2⟩ := d.own
  exact ⟨d.t.call hb, d.f.trans (Fs.below hb d.f.size), B, ownb h hb, h1, h2⟩
theorem Gv.atB {w0 W W' : World} {sa gm gl sb hm hl ca cb : Nat} {a b b' : M} {v : Value} {ks : List K} (d : Gv w0 sa gm gl sb hm hl a b ca cb v ks W) (hq : Mb hm hl b' W') (hk : Kq W.heap.size hm hl W W') : Gv w0 sa gm gl sb hm hl a b' ca cb v ks W' := by
  obtain ⟨B, h, h1, h2⟩ := d.own
  exact ⟨d.t.atB hq hk, d.f.trans (Fs.kq hk d.f.size (by unfold S6; simp) (by unfold S6; simp)), B, ownq h hk h1 h2, h1, h2⟩
theorem Gv.row {w0 W : World} {sa gm gl sb hm hl ca cb : Nat} {a b : M} {v : Value} {ks : List K} (d : Gv w0 sa gm gl sb hm hl a b ca cb v ks W) (i : Nat) (h : i < ks.length) : ∃ g c, v = .slice (some ⟨g, 0, none⟩) ks.length c ∧ W.rangeAt g (i * 11) (pc ks[i] nS nS).toList := by
  obtain ⟨B, ho, _⟩ := d.own
  obtain ⟨b, c, hv, hc⟩ := Pks.of_own ho
  obtain ⟨g, hb, _, hr⟩ := hc i h
  exact ⟨g, c, by rw [hv, hb], hr⟩
theorem Gv.at {w0 W : World} {sa gm gl sb hm hl ca cb g n c : Nat} {a b : M} {ks : List K} (d : Gv w0 sa gm gl sb hm hl a b ca cb (.slice (some ⟨g, 0, none⟩) n c) ks W) (i : Nat) (h : i < ks.length) : W.rangeAt g (i * 11) (pc ks[i] nS nS).toList := by
  obtain ⟨g', c', e, hr⟩ := d.row i h
  injection e with e1 e2 e3
  injection e1 with e4
  injection e4 with e5
  rw [e5]; exact hr
theorem exec_load_pk {op : Oper} {ρ : Operand → Value} {w : World} (x : Operand) (b o : Nat) (k : K) (vi vp : Value) (hc : w.rangeAt b o (pc k vi vp).toList) (ho : op.op = .load PT x) (hx : ρ x = .pointer (some ⟨b, o, none⟩)) :
    (execOp ρ op).run Tryd.prog w = .ok (.value (.agg (pc k vi vp))) w := by
  unfold execOp
  simp only [ho, hx, Instr.loadAt, Instr.sureAddr, Sem.run_bind, Sem.run_pure, Result.andThen_ok, run_loadVar_mid w b o PT (pc k vi vp).toList _ hc Tryd.underlying26 rfl (pc_info k vi vp)]
set_option maxRecDepth 100000 in
set_option maxHeartbeats 8000000 in
/-- One tells, the other one hears what is not lost. -/
theorem give_any (a b : M) (ca cb now sa gm gl sb hm hl : Nat) (v : Value) (ls : List Bool) (w0 w : World) (f0 : Fs w0.heap.size (S6 sa gm gl sb hm hl) w0 w) (d : Two sa gm gl sb hm hl a b ca cb w) (ha : a.wf) (hb : b.wf) (hks : ∀ k ∈ a.out now ca ca, k.wf)
    (hnow : now < 18446744073709551616) (hca : ca < 18446744073709551616) (hT : ∀ V, Fs w0.heap.size (S6 sa gm gl sb hm hl) w0 V → Tab V) (hL : ∀ V, Fs w0.heap.size (S6 sa gm gl sb hm hl) w0 V → Bls V v ls) :
    Calls Tryd.prog 86 #[.pointer (some ⟨sa, 0, none⟩), .pointer (some ⟨sb, 0, none⟩), .int .u64 now, v] w fun r w' => ∃ v', r = .returned v' ∧ (∀ V, Fs w0.heap.size (S6 sa gm gl sb hm hl) w0 V → Bls V v' (ls.drop (a.out now ca ca).length)) ∧ Two sa gm gl sb hm hl (a.outs now) (feed b (a.out now ca ca) ls) ca cb w' ∧ Fs w0.heap.size (S6 sa gm gl sb hm hl) w0 w' := by
  have HD := Lib.hid d
  have HT := Lib.hid hT
  have HL := Lib.hid hL
  have HB := Lib.hid hb
  obtain ⟨ks, hk0⟩ : ∃ ks, ks = a.out now ca ca := ⟨_, rfl⟩
  have HO := Lib.hid (fun W (t : Two sa gm gl sb hm hl a b ca cb W) => out_any a now ca ca gm gl W t.p ha hnow hca hca)
  rw [← hk0] at HO hks ⊢
  have HKW := Lib.hid hks
  have HKN := Lib.hid (show ∀ k ∈ ks, k.ins = [] ∧ k.prs = [] by
    intro k hk
    rw [hk0] at hk
    rcases out_mem hk with rfl | rfl <;> exact ⟨rfl, rfl⟩)
  have HKL := Lib.hid (show ks.length ≤ 2 by
    rw [hk0]
    unfold M.out
    rw [List.length_append]
    have e1 : (if a.owes = true then [told a.l 2 ca ca] else []).length ≤ 1 := by split <;> simp
    have e2 : (if a.says now = true then [told a.l 1 ca ca] else []).length ≤ 1 := by split <;> simp
    omega)
  obtain ⟨yf, hyf⟩ : ∃ yf, yf = feed b ks ls := ⟨_, rfl⟩
  have HYF := Lib.hid hyf
  rw [← hyf]
  have HRF := Lib.hid f0
  obtain ⟨q1, q2⟩ := (show 0 < 1 ∧ 0 < 1 by decide)
  clear d hT hL hb hks ha hk0 hyf q1 q2 f0
  go_enter Tryd.func86, Tryd.ntmps86
  go_upto_region 1 with fail
  refine Draw.wp_region_prefix 13 (fun W => Two sa gm gl sb hm hl a b ca cb W ∧ Fs w0.heap.size (S6 sa gm gl sb hm hl) w0 W) (fun W W' => Below W.heap.size W W') (fun i W vv => match i with
      | 0 => vv = .pointer (some ⟨sa, 0, none⟩)
      | 1 => vv = .pointer (some ⟨sa, 0, none⟩)
      | 2 => vv = .pointer (some ⟨sa, 0, none⟩)
      | 3 => vv = .pointer (some ⟨gm, 0, none⟩)
      | 4 => vv = .int .u64 now
      | 5 => vv = .pointer (some ⟨sa, 0, none⟩)
      | 6 => vv = .pointer (some ⟨sa, 0, none⟩)
      | 7 => vv = .pointer (some ⟨sa, 1, none⟩)
      | 8 => vv = .int .u64 ca
      | 9 => vv = .pointer (some ⟨sa, 0, none⟩)
      | 10 => vv = .pointer (some ⟨sa, 0, none⟩)
      | 11 => vv = .pointer (some ⟨sa, 1, none⟩)
      | _ => vv = .int .u64 ca) (by kernel_rfl) (by kernel_rfl) (by decide) rfl (by decide) (by decide) (by decide) ?_ ⟨HD.out.drew, HRF.out.drew⟩ ?_ [12, 13, 14, 15, 16, 17, 18, 19, 20, 21, 22, 23, 24] (by rfl) 2 (by rfl) ?_
  · intro i W W' vv he hf
    exact hf
  · refine ⟨?_, ?_, ?_, ?_, ?_, ?_, ?_, ?_, ?_, ?_, ?_, ?_, ?_, trivial⟩
    all_goals intro ρ W hJ hc hf hKn
    · refine Draw.Goes.plain rfl ?_
      exact Draw.Runs.value (w' := W) (v := ρ (.tmp 0)) rfl ⟨hJ, Below.refl _ _, hKn.1.2 0 rfl⟩
    · refine Draw.Goes.plain rfl ?_
      have h0 : ρ (.tmp 12) = .pointer (some ⟨sa, 0, none⟩) := hKn.1.get 0 12 rfl rfl
      refine Draw.Runs.value (w' := W) (v := .pointer (some ⟨sa, 0, none⟩)) ?_ ⟨hJ, Below.refl _ _, rfl⟩
      simp only [execOp]; go_simp
    · refine Draw.Goes.plain rfl ?_
      have h0 : ρ (.tmp 13) = .pointer (some ⟨sa, 0, none⟩) := hKn.1.get 1 13 rfl rfl
      refine Draw.Runs.value (w' := W) (v := .pointer (some ⟨sa, 0, none⟩)) ?_ ⟨hJ, Below.refl _ _, rfl⟩
      simp only [execOp]; go_simp
    · refine Draw.Goes.plain rfl ?_
      have h0 : ρ (.tmp 14) = .pointer (some ⟨sa, 0, none⟩) := hKn.1.get 2 14 rfl rfl
      have c : W.cell? ⟨sa, 0, none⟩ = some (.pointer (some ⟨gm, 0, none⟩)) := hJ.1.x.cell _ rfl
      refine Draw.Runs.value (w' := W) (v := .pointer (some ⟨gm, 0, none⟩)) ?_ ⟨hJ, Below.refl _ _, rfl⟩
      simp only [execOp]; go_simp
    · refine Draw.Goes.plain rfl ?_
      exact Draw.Runs.value (w' := W) (v := ρ (.tmp 2)) rfl ⟨hJ, Below.refl _ _, hKn.1.2 2 rfl⟩
    · refine Draw.Goes.plain rfl ?_
      exact Draw.Runs.value (w' := W) (v := ρ (.tmp 0)) rfl ⟨hJ, Below.refl _ _, hKn.1.2 0 rfl⟩
    · refine Draw.Goes.plain rfl ?_
      have h0 : ρ (.tmp 17) = .pointer (some ⟨sa, 0, none⟩) := hKn.1.get 5 17 rfl rfl
      refine Draw.Runs.value (w' := W) (v := .pointer (some ⟨sa, 0, none⟩)) ?_ ⟨hJ, Below.refl _ _, rfl⟩
      simp only [execOp]; go_simp
    · refine Draw.Goes.plain rfl ?_
      have h0 : ρ (.tmp 18) = .pointer (some ⟨sa, 0, none⟩) := hKn.1.get 6 18 rfl rfl
      refine Draw.Runs.value (w' := W) (v := .pointer (some ⟨sa, 1, none⟩)) ?_ ⟨hJ, Below.refl _ _, rfl⟩
      simp only [execOp]; go_simp
    · refine Draw.Goes.plain rfl ?_
      have h0 : ρ (.tmp 19) = .pointer (some ⟨sa, 1, none⟩) := hKn.1.get 7 19 rfl rfl
      have c : W.cell? ⟨sa, 1, none⟩ = some (.int .u64 ca) := hJ.1.x.cell _ rfl
      refine Draw.Runs.value (w' := W) (v := .int .u64 ca) ?_ ⟨hJ, Below.refl _ _, rfl⟩
      simp only [execOp]; go_simp
    · refine Draw.Goes.plain rfl ?_
      exact Draw.Runs.value (w' := W) (v := ρ (.tmp 0)) rfl ⟨hJ, Below.refl _ _, hKn.1.2 0 rfl⟩
    · refine Draw.Goes.plain rfl ?_
      have h0 : ρ (.tmp 21) = .pointer (some ⟨sa, 0, none⟩) := hKn.1.get 9 21 rfl rfl
      refine Draw.Runs.value (w' := W) (v := .pointer (some ⟨sa, 0, none⟩)) ?_ ⟨hJ, Below.refl _ _, rfl⟩
      simp only [execOp]; go_simp
    · refine Draw.Goes.plain rfl ?_
      have h0 : ρ (.tmp 22) = .pointer (some ⟨sa, 0, none⟩) := hKn.1.get 10 22 rfl rfl
      refine Draw.Runs.value (w' := W) (v := .pointer (some ⟨sa, 1, none⟩)) ?_ ⟨hJ, Below.refl _ _, rfl⟩
      simp only [execOp]; go_simp
    · refine Draw.Goes.plain rfl ?_
      have h0 : ρ (.tmp 23) = .pointer (some ⟨sa, 1, none⟩) := hKn.1.get 11 23 rfl rfl
      have c : W.cell? ⟨sa, 1, none⟩ = some (.int .u64 ca) := hJ.1.x.cell _ rfl
      refine Draw.Runs.value (w' := W) (v := .int .u64 ca) ?_ ⟨hJ, Below.refl _ _, rfl⟩
      simp only [execOp]; go_simp
  · intro u W hJ hf
    have r15 : u 15 = .pointer (some ⟨gm, 0, none⟩) := hf 3 _ 15 (by decide) rfl rfl
    have r16 : u 16 = .int .u64 now := hf 4 _ 16 (by decide) rfl rfl
    have r20 : u 20 = .int .u64 ca := hf 8 _ 20 (by decide) rfl rfl
    have r24 : u 24 = .int .u64 ca := hf 12 _ 24 (by decide) rfl rfl
    simp only [List.foldl_cons, List.foldl_nil, List.setIfInBounds_toArray, List.set_cons_succ, List.set_cons_zero, r15, r16, r20, r24]
    have hJ1 := hJ
    clear hJ hf
    refine Draw.wpAny_one (i := 13) (by kernel_rfl) rfl rfl ?_
    refine runs_at (some 25) rfl (R := fun V z => Gv w0 sa gm gl sb hm hl (a.outs now) b ca cb z ks V) (Draw.Runs.enter (f := 51) (args := #[.pointer (some ⟨gm, 0, none⟩), .int .u64 now, .int .u64 ca, .int .u64 ca]) (by simp only [execOp]; go_simp) ((HO.out W hJ1.1).mono fun e W' ⟨v', he, hp, hown, hk⟩ => ⟨_, he, hJ1.1.atA hp hk, hJ1.2.trans (Fs.kq hk hJ1.2.size (by unfold S6; simp) (by unfold S6; simp)), _, hown, Nat.lt_add_right 4 hJ1.1.q.a.lt, Nat.lt_add_right 4 hJ1.1.q.b.lt⟩)) ?_
    rintro W2 z hG
    obtain ⟨_, hown2, _⟩ := id hG.own
    obtain ⟨bz, cz, rfl⟩ := own_len hown2
    refine Draw.wpAny_one (i := 14) (by kernel_rfl) rfl rfl ?_
    refine wp_value_at (some 9) rfl (v := .slice bz ks.length cz) (w' := W2) (by simp only [execOp]; go_simp) ?_
    refine Draw.wpAny_end (by kernel_rfl) ?_
    simp only [Act.put, List.setIfInBounds_toArray, List.set_cons_succ, List.set_cons_zero]
    have HG0 := Lib.hid hG
    clear hJ1 hG hown2
    go_wp2
    go_loopw [3, 10] (fun z i wr => ∃ (j : Nat) (y : M) (us : List Bool), j ≤ ks.length ∧ i = .int .i64 j ∧ y.wf ∧ us = ls.drop j ∧ feed y (ks.drop j) us = yf ∧ (∀ V, Fs w0.heap.size (S6 sa gm gl sb hm hl) w0 V → Bls V z us) ∧ Gv w0 sa gm gl sb hm hl (a.outs now) y ca cb (.slice bz ks.length cz) ks wr) (fun _ i _ => ks.length - (intOf i).toNat)
    case atStart => exact ⟨0, b, ls, Nat.zero_le _, rfl, HB.out, rfl, HYF.out.symm, HL.out, HG0.out⟩
    case round =>
      obtain ⟨j, y, us, hj, rfl, hy, hus, hfd, hbl, hg⟩ := hrel
      by_cases hlt : j < ks.length
      case neg =>
        obtain rfl : j = ks.length := by omega
        rw [List.drop_length] at hfd
        have HQ := Lib.hid (show y = yf from hfd)
        have HG := Lib.hid hg
        have HBL := Lib.hid hbl
        have HUS := Lib.hid hus
        clear hg hbl hus hfd hy
        go_wp2
        go_ret
        exact ⟨_, rfl, HUS.out ▸ HBL.out, HQ.out ▸ HG.out.t, HG.out.f⟩
      case pos =>
      have hj2 : j < 2 := by have := HKL.out; omega
      obtain ⟨gz, cz', hz, _⟩ := hg.row j hlt
      injection hz with hz1 hz2 hz3
      subst hz1
      obtain ⟨k, hk⟩ : ∃ k, k = ks[j] := ⟨_, rfl⟩
      have HROW := Lib.hid (fun W (h : Gv w0 sa gm gl sb hm hl (a.outs now) y ca cb (.slice (some ⟨gz, 0, none⟩) ks.length cz) ks W) => show W.rangeAt gz (j * 11) (pc k nS nS).toList by rw [hk]; exact h.at j hlt)
      have hmem : k ∈ ks := by rw [hk]; exact List.getElem_mem hlt
      have HKW1 := Lib.hid (HKW.out k hmem)
      have HON := Lib.hid (fun W (h : Gv w0 sa gm gl sb hm hl (a.outs now) y ca cb (.slice (some ⟨gz, 0, none⟩) ks.length cz) ks W) => mon_any y k nS nS hm hl W h.t.q hy (HKW.out k hmem) (fun V q => by rw [(HKN.out k hmem).1]; exact ins_nil _) (fun V q => by rw [(HKN.out k hmem).2]; exact prs_nil _) (fun V q => HT.out V (h.f.trans (Fs.kq q h.f.size (by unfold S6; simp) (by unfold S6; simp)))))
      have HFD := Lib.hid (show feed (if us.head? = some true then y else (y.on k).1) (ks.drop (j + 1)) us.tail = yf by rw [← hfd, List.drop_eq_getElem_cons hlt, hk]; rfl)
      have HUS := Lib.hid (show us.tail = ls.drop (j + 1) by rw [hus, List.tail_drop])
      have HBL := Lib.hid hbl
      have HG := Lib.hid hg
      have HY := Lib.hid hy
      clear hg hfd hus hk hmem hz3 hy HB HYF HL HG0 HD HO
      cases us with
      | nil =>
        obtain ⟨p, c, rfl, _, _⟩ := hbl wr HG.out.f
        clear hbl
        go_upto_region 9 with fail
        refine Draw.wp_region_prefix 8 (Gv w0 sa gm gl sb hm hl (a.outs now) y ca cb (.slice (some ⟨gz, 0, none⟩) ks.length cz) ks) (fun W W' => Below W.heap.size W W') (fun i W vv => match i with
            | 0 => vv = .pointer (some ⟨sb, 0, none⟩)
            | 1 => vv = .pointer (some ⟨sb, 0, none⟩)
            | 2 => vv = .pointer (some ⟨sb, 0, none⟩)
            | 3 => vv = .pointer (some ⟨hm, 0, none⟩)
            | 4 => vv = .slice (some ⟨gz, 0, none⟩) ks.length cz
            | 5 => vv = .int .i64 j
            | 6 => vv = .pointer (some ⟨gz, j * 11, none⟩)
            | _ => vv = .agg (pc k nS nS)) (by kernel_rfl) (by kernel_rfl) (by decide) rfl (by decide) (by decide) (by decide) ?_ (HG.out.call (Below.refl _ _).drew) ?_ [41, 42, 43, 44, 45, 46, 47, 48] (by rfl) 1 (by rfl) ?_
        · intro i W W' vv he hf
          exact hf
        · refine ⟨?_, ?_, ?_, ?_, ?_, ?_, ?_, ?_, trivial⟩
          all_goals intro ρ W hJ hc hf hKn
          · refine Draw.Goes.plain rfl ?_
            exact Draw.Runs.value (w' := W) (v := ρ (.tmp 1)) rfl ⟨hJ, Below.refl _ _, hKn.1.2 1 rfl⟩
          · refine Draw.Goes.plain rfl ?_
            have h0 : ρ (.tmp 41) = .pointer (some ⟨sb, 0, none⟩) := hKn.1.get 0 41 rfl rfl
            refine Draw.Runs.value (w' := W) (v := .pointer (some ⟨sb, 0, none⟩)) ?_ ⟨hJ, Below.refl _ _, rfl⟩
            simp only [execOp]; go_simp
          · refine Draw.Goes.plain rfl ?_
            have h0 : ρ (.tmp 42) = .pointer (some ⟨sb, 0, none⟩) := hKn.1.get 1 42 rfl rfl
            refine Draw.Runs.value (w' := W) (v := .pointer (some ⟨sb, 0, none⟩)) ?_ ⟨hJ, Below.refl _ _, rfl⟩
            simp only [execOp]; go_simp
          · refine Draw.Goes.plain rfl ?_
            have h0 : ρ (.tmp 43) = .pointer (some ⟨sb, 0, none⟩) := hKn.1.get 2 43 rfl rfl
            have c : W.cell? ⟨sb, 0, none⟩ = some (.pointer (some ⟨hm, 0, none⟩)) := hJ.t.y.cell _ rfl
            refine Draw.Runs.value (w' := W) (v := .pointer (some ⟨hm, 0, none⟩)) ?_ ⟨hJ, Below.refl _ _, rfl⟩
            simp only [execOp]; go_simp
          · refine Draw.Goes.plain rfl ?_
            exact Draw.Runs.value (w' := W) (v := ρ (.tmp 9)) rfl ⟨hJ, Below.refl _ _, hKn.1.2 9 rfl⟩
          · refine Draw.Goes.plain rfl ?_
            exact Draw.Runs.value (w' := W) (v := ρ (.tmp 10)) rfl ⟨hJ, Below.refl _ _, hKn.1.2 10 rfl⟩
          · refine Draw.Goes.plain rfl ?_
            have h0 : ρ (.tmp 45) = .slice (some ⟨gz, 0, none⟩) ks.length cz := hKn.1.get 4 45 rfl rfl
            have h1 : ρ (.tmp 46) = .int .i64 j := hKn.1.get 5 46 rfl rfl
            refine Draw.Runs.value (w' := W) (v := .pointer (some ⟨gz, j * 11, none⟩)) ?_ ⟨hJ, Below.refl _ _, rfl⟩
            simp only [execOp]; go_simp
          · refine Draw.Goes.plain rfl ?_
            have h0 : ρ (.tmp 47) = .pointer (some ⟨gz, j * 11, none⟩) := hKn.1.get 6 47 rfl rfl
            exact Draw.Runs.value (w' := W) (v := .agg (pc k nS nS)) (exec_load_pk _ gz _ k nS nS (HROW.out W hJ) rfl h0) ⟨hJ, Below.refl _ _, rfl⟩
        · intro u W hJ hf
          have r44 : u 44 = .pointer (some ⟨hm, 0, none⟩) := hf 3 _ 44 (by decide) rfl rfl
          have r48 : u 48 = .agg (pc k nS nS) := hf 7 _ 48 (by decide) rfl rfl
          simp only [List.foldl_cons, List.foldl_nil, List.setIfInBounds_toArray, List.set_cons_succ, List.set_cons_zero, r44, r48]
          have hJ1 := hJ
          clear hJ hf
          refine Draw.wpAny_one (i := 8) (by kernel_rfl) rfl rfl ?_
          refine runs_at (some 49) rfl (R := fun V z => Gv w0 sa gm gl sb hm hl (a.outs now) (y.on k).1 ca cb (.slice (some ⟨gz, 0, none⟩) ks.length cz) ks V) (Draw.Runs.enter (f := 45) (args := #[.pointer (some ⟨hm, 0, none⟩), .agg (pc k nS nS)]) (by simp only [execOp]; go_simp) ((HON.out W hJ1).mono fun e W' ⟨he, hb, hk⟩ => ⟨_, he, hJ1.atB hb hk⟩)) ?_
          rintro W2 z2 hG2
          refine Draw.wpAny_end (by kernel_rfl) ?_
          simp only [Act.put, List.setIfInBounds_toArray, List.set_cons_succ, List.set_cons_zero]
          have HG2 := Lib.hid hG2
          clear hJ1 hG2
          go_wp2
          go_roundw
          case rel => exact ⟨j + 1, (y.on k).1, [], by omega, by go_num, M.on_wf HY.out HKW1.out, HUS.out, HFD.out, HBL.out, HG2.out⟩
          case measure => simp [intOf]; omega
      | cons x us =>
        obtain ⟨g, oz, c, rfl, hcell⟩ := (hbl wr HG.out.f).head
        have HBT := Lib.hid (fun V (q : Fs w0.heap.size (S6 sa gm gl sb hm hl) w0 V) => (hbl V q).tail)
        clear hbl
        cases x with
        | true =>
          go_wp2
          go_roundw
          case rel => exact ⟨j + 1, y, us, by omega, by go_num, HY.out, HUS.out, HFD.out, HBT.out, HG.out⟩
          case measure => simp [intOf]; omega
        | false =>
          go_upto_region 9 with fail
          refine Draw.wp_region_prefix 8 (Gv w0 sa gm gl sb hm hl (a.outs now) y ca cb (.slice (some ⟨gz, 0, none⟩) ks.length cz) ks) (fun W W' => Below W.heap.size W W') (fun i W vv => match i with
              | 0 => vv = .pointer (some ⟨sb, 0, none⟩)
              | 1 => vv = .pointer (some ⟨sb, 0, none⟩)
              | 2 => vv = .pointer (some ⟨sb, 0, none⟩)
              | 3 => vv = .pointer (some ⟨hm, 0, none⟩)
              | 4 => vv = .slice (some ⟨gz, 0, none⟩) ks.length cz
              | 5 => vv = .int .i64 j
              | 6 => vv = .pointer (some ⟨gz, j * 11, none⟩)
              | _ => vv = .agg (pc k nS nS)) (by kernel_rfl) (by kernel_rfl) (by decide) rfl (by decide) (by decide) (by decide) ?_ (HG.out.call (Below.refl _ _).drew) ?_ [41, 42, 43, 44, 45, 46, 47, 48] (by rfl) 1 (by rfl) ?_
          · intro i W W' vv he hf
            exact hf
          · refine ⟨?_, ?_, ?_, ?_, ?_, ?_, ?_, ?_, trivial⟩
            all_goals intro ρ W hJ hc hf hKn
            · refine Draw.Goes.plain rfl ?_
              exact Draw.Runs.value (w' := W) (v := ρ (.tmp 1)) rfl ⟨hJ, Below.refl _ _, hKn.1.2 1 rfl⟩
            · refine Draw.Goes.plain rfl ?_
              have h0 : ρ (.tmp 41) = .pointer (some ⟨sb, 0, none⟩) := hKn.1.get 0 41 rfl rfl
              refine Draw.Runs.value (w' := W) (v := .pointer (some ⟨sb, 0, none⟩)) ?_ ⟨hJ, Below.refl _ _, rfl⟩
              simp only [execOp]; go_simp
            · refine Draw.Goes.plain rfl ?_
              have h0 : ρ (.tmp 42) = .pointer (some ⟨sb, 0, none⟩) := hKn.1.get 1 42 rfl rfl
              refine Draw.Runs.value (w' := W) (v := .pointer (some ⟨sb, 0, none⟩)) ?_ ⟨hJ, Below.refl _ _, rfl⟩
              simp only [execOp]; go_simp
            · refine Draw.Goes.plain rfl ?_
              have h0 : ρ (.tmp 43) = .pointer (some ⟨sb, 0, none⟩) := hKn.1.get 2 43 rfl rfl
              have c : W.cell? ⟨sb, 0, none⟩ = some (.pointer (some ⟨hm, 0, none⟩)) := hJ.t.y.cell _ rfl
              refine Draw.Runs.value (w' := W) (v := .pointer (some ⟨hm, 0, none⟩)) ?_ ⟨hJ, Below.refl _ _, rfl⟩
              simp only [execOp]; go_simp
            · refine Draw.Goes.plain rfl ?_
              exact Draw.Runs.value (w' := W) (v := ρ (.tmp 9)) rfl ⟨hJ, Below.refl _ _, hKn.1.2 9 rfl⟩
            · refine Draw.Goes.plain rfl ?_
              exact Draw.Runs.value (w' := W) (v := ρ (.tmp 10)) rfl ⟨hJ, Below.refl _ _, hKn.1.2 10 rfl⟩
            · refine Draw.Goes.plain rfl ?_
              have h0 : ρ (.tmp 45) = .slice (some ⟨gz, 0, none⟩) ks.length cz := hKn.1.get 4 45 rfl rfl
              have h1 : ρ (.tmp 46) = .int .i64 j := hKn.1.get 5 46 rfl rfl
              refine Draw.Runs.value (w' := W) (v := .pointer (some ⟨gz, j * 11, none⟩)) ?_ ⟨hJ, Below.refl _ _, rfl⟩
              simp only [execOp]; go_simp
            · refine Draw.Goes.plain rfl ?_
              have h0 : ρ (.tmp 47) = .pointer (some ⟨gz, j * 11, none⟩) := hKn.1.get 6 47 rfl rfl
              exact Draw.Runs.value (w' := W) (v := .agg (pc k nS nS)) (exec_load_pk _ gz _ k nS nS (HROW.out W hJ) rfl h0) ⟨hJ, Below.refl _ _, rfl⟩
          · intro u W hJ hf
            have r44 : u 44 = .pointer (some ⟨hm, 0, none⟩) := hf 3 _ 44 (by decide) rfl rfl
            have r48 : u 48 = .agg (pc k nS nS) := hf 7 _ 48 (by decide) rfl rfl
            simp only [List.foldl_cons, List.foldl_nil, List.setIfInBounds_toArray, List.set_cons_succ, List.set_cons_zero, r44, r48]
            have hJ1 := hJ
            clear hJ hf
            refine Draw.wpAny_one (i := 8) (by kernel_rfl) rfl rfl ?_
            refine runs_at (some 49) rfl (R := fun V z => Gv w0 sa gm gl sb hm hl (a.outs now) (y.on k).1 ca cb (.slice (some ⟨gz, 0, none⟩) ks.length cz) ks V) (Draw.Runs.enter (f := 45) (args := #[.pointer (some ⟨hm, 0, none⟩), .agg (pc k nS nS)]) (by simp only [execOp]; go_simp) ((HON.out W hJ1).mono fun e W' ⟨he, hb, hk⟩ => ⟨_, he, hJ1.atB hb hk⟩)) ?_
            rintro W2 z2 hG2
            refine Draw.wpAny_end (by kernel_rfl) ?_
            simp only [Act.put, List.setIfInBounds_toArray, List.set_cons_succ, List.set_cons_zero]
            have HG2 := Lib.hid hG2
            clear hJ1 hG2
            go_wp2
            go_roundw
            case rel => exact ⟨j + 1, (y.on k).1, us, by omega, by go_num, M.on_wf HY.out HKW1.out, HUS.out, HFD.out, HBT.out, HG2.out⟩
            case measure => simp [intOf]; omega
theorem Fs.mono {B B' : Nat} {S : Nat → Prop} {w w' : World} (h : Fs B' S w w') (hb : B ≤ B') : Fs B S w w' := ⟨h.os, h.tape, h.output, h.size, fun k hk hs => h.block k (by omega) hs⟩
theorem Si.out_ok {m : M} {p o ot old ev now c : Nat} (h : Si m p o ot old ev) (hp : p ≤ 1) (ho : 1 ≤ o) (hc : c < 18446744073709551616) : ∀ k ∈ m.out now c c, k.wf := h.out_wf hp ho hc
section
variable {ea eb eo ev now sa gm gl sb hm hl : Nat} {q : R} {v : Value} {w0 w : World}
theorem give_A (hq : In ea eb eo ev q) (hnow : now < 18446744073709551616) (f0 : Fs w0.heap.size (S6 sa gm gl sb hm hl) w0 w) (d : Two sa gm gl sb hm hl q.a q.b q.ca q.cb w) (hT : ∀ V, Fs w0.heap.size (S6 sa gm gl sb hm hl) w0 V → Tab V) (hL : ∀ V, Fs w0.heap.size (S6 sa gm gl sb hm hl) w0 V → Bls V v q.ls) :
    Calls Tryd.prog 86 #[.pointer (some ⟨sa, 0, none⟩), .pointer (some ⟨sb, 0, none⟩), .int .u64 now, v] w fun r w' => ∃ v', r = .returned v' ∧ (∀ V, Fs w0.heap.size (S6 sa gm gl sb hm hl) w0 V → Bls V v' (q.giveA now).ls) ∧ Two sa gm gl sb hm hl (q.giveA now).a (q.giveA now).b (q.giveA now).ca (q.giveA now).cb w' ∧ Fs w0.heap.size (S6 sa gm gl sb hm hl) w0 w' :=
  give_any q.a q.b q.ca q.cb now sa gm gl sb hm hl v q.ls w0 w f0 d hq.A.wf hq.B.wf (hq.A.out_wf (by decide) hq.ha hq.ca) hnow hq.ca hT hL
theorem give_B (hq : In ea eb eo ev q) (hnow : now < 18446744073709551616) (f0 : Fs w0.heap.size (S6 sa gm gl sb hm hl) w0 w) (d : Two sa gm gl sb hm hl q.a q.b q.ca q.cb w) (hT : ∀ V, Fs w0.heap.size (S6 sa gm gl sb hm hl) w0 V → Tab V) (hL : ∀ V, Fs w0.heap.size (S6 sa gm gl sb hm hl) w0 V → Bls V v q.ls) :
    Calls Tryd.prog 86 #[.pointer (some ⟨sb, 0, none⟩), .pointer (some ⟨sa, 0, none⟩), .int .u64 now, v] w fun r w' => ∃ v', r = .returned v' ∧ (∀ V, Fs w0.heap.size (S6 sa gm gl sb hm hl) w0 V → Bls V v' (q.giveB now).ls) ∧ Two sa gm gl sb hm hl (q.giveB now).a (q.giveB now).b (q.giveB now).ca (q.giveB now).cb w' ∧ Fs w0.heap.size (S6 sa gm gl sb hm hl) w0 w' := by
  have sw : ∀ V, Fs w0.heap.size (S6 sb hm hl sa gm gl) w0 V → Fs w0.heap.size (S6 sa gm gl sb hm hl) w0 V := fun V h => h.sub (fun k => S6.swap)
  have ws : ∀ V, Fs w0.heap.size (S6 sa gm gl sb hm hl) w0 V → Fs w0.heap.size (S6 sb hm hl sa gm gl) w0 V := fun V h => h.sub (fun k => S6.swap)
  refine (give_any q.b q.a q.cb q.ca now sb hm hl sa gm gl v q.ls w0 w (ws _ f0) d.swap hq.B.wf hq.A.wf (hq.B.out_wf (by decide) hq.hb hq.cb) hnow hq.cb (fun V h => hT V (sw V h)) (fun V h => hL V (sw V h))).mono ?_
  rintro r w' ⟨v', rfl, h1, h2, h3⟩
  exact ⟨v', rfl, fun V h => h1 V (ws V h), h2.swap, sw _ h3⟩
end
theorem wp_count {o : Oper} {a : Act} {w : World} {K : Act → World → Prop} {Q : Exit → Act → World → Prop} (hd : o.dst = none) (x y : Operand) (ho : o.op = .store 22 x y) (g c c0 gm : Nat) (hb : Blk w g (dc gm c0) DT) (hx : a.eval x = .pointer (some ⟨g, 1, none⟩)) (hy : a.eval y = .int .u64 c)
    (h : K a (w.setCell ⟨g, 1, none⟩ (.int .u64 c))) : o.wp Tryd.prog a w K Q := by
  have c0' := hb.cell (off := 1) _ rfl
  have f0' : w.frozen? ⟨g, 1, none⟩ = false := hb.free
  have hr : (execOp a.eval o).run Tryd.prog w = .ok .skip (w.setCell ⟨g, 1, none⟩ (.int .u64 c)) := by
    simp only [execOp, ho, hx, hy]; go_simp
  exact runs_at none hd (R := fun V _ => V = w.setCell ⟨g, 1, none⟩ (.int .u64 c)) (by unfold Draw.Runs; rw [hr]) (fun V u e => by subst e; exact h)
theorem max_cast (a b : Nat) : (if a < b then (b : Int) else (a : Int)) = ((max a b : Nat) : Int) := by split <;> omega
set_option maxRecDepth 100000 in
set_option maxHeartbeats 16000000 in
/-- So many rounds. -/
theorem meet_any (ea eb eo ev now n sa gm gl sb hm hl : Nat) (r0 : R) (v : Value) (w0 w : World) (f0 : Fs w0.heap.size (S6 sa gm gl sb hm hl) w0 w) (d : Two sa gm gl sb hm hl r0.a r0.b r0.ca r0.cb w) (hi : In ea eb eo ev r0) (hn : now + n ≤ 9223372036854775807)
    (hT : ∀ V, Fs w0.heap.size (S6 sa gm gl sb hm hl) w0 V → Tab V) (hL : ∀ V, Fs w0.heap.size (S6 sa gm gl sb hm hl) w0 V → Bls V v r0.ls) (h3a : (R.go now n r0).a.st = 3) (h3b : (R.go now n r0).b.st = 3) :
    Calls Tryd.prog 53 #[.pointer (some ⟨sa, 0, none⟩), .pointer (some ⟨sb, 0, none⟩), .int .u64 now, .int .i64 n, v] w fun r w' => r = .returned (.bool true) ∧ Two sa gm gl sb hm hl (R.go now n r0).a (R.go now n r0).b (R.go now n r0).ca (R.go now n r0).cb w' ∧ Fs w0.heap.size (S6 sa gm gl sb hm hl) w0 w' := by
  obtain ⟨rf, hrf⟩ : ∃ rf, rf = R.go now n r0 := ⟨_, rfl⟩
  rw [← hrf] at h3a h3b ⊢
  have HRF := Lib.hid hrf
  have HD := Lib.hid d
  have HF := Lib.hid f0
  have HI := Lib.hid hi
  have HT := Lib.hid hT
  have HL := Lib.hid hL
  have HSA := Lib.hid (fun W (t : Two sa gm gl sb hm hl rf.a rf.b rf.ca rf.cb W) => mstate_any rf.a gm gl W t.p)
  rw [h3a] at HSA
  have HSB := Lib.hid (fun W (t : Two sa gm gl sb hm hl rf.a rf.b rf.ca rf.cb W) => mstate_any rf.b hm hl W t.q)
  rw [h3b] at HSB
  clear d f0 hi hT hL hrf h3a h3b
  go_enter Tryd.func53, Tryd.ntmps53
  go_wp2
  go_loopw [2, 4, 11] (fun t z i wr => ∃ (j : Nat) (q : R), j ≤ n ∧ i = .int .i64 j ∧ t = .int .u64 (now + j : Nat) ∧ R.go (now + j) (n - j) q = rf ∧ In ea eb eo ev q ∧ (∀ V, Fs w0.heap.size (S6 sa gm gl sb hm hl) w0 V → Bls V z q.ls) ∧ Two sa gm gl sb hm hl q.a q.b q.ca q.cb wr ∧ Fs w0.heap.size (S6 sa gm gl sb hm hl) w0 wr) (fun _ _ i _ => n - (intOf i).toNat)
  case atStart => exact ⟨0, r0, Nat.zero_le _, rfl, rfl, HRF.out.symm, HI.out, HL.out, HD.out, HF.out⟩
  case round =>
    obtain ⟨j, q, hj, rfl, rfl, hgo, hq, hbl, ht, hf⟩ := hrel
    by_cases hlt : j < n
    case neg =>
      obtain rfl : j = n := by omega
      rw [Nat.sub_self] at hgo
      have HQ := Lib.hid (show q = rf from hgo)
      have ht' := HQ.out ▸ ht
      have HTW := Lib.hid ht'
      have HFF := Lib.hid hf
      have cA := ht'.x.cell (off := 0) _ rfl
      have cB := ht'.y.cell (off := 0) _ rfl
      clear hgo hq hbl ht hf ht'
      go_wp2_with fail
      refine (HSA.out _ HTW.out).mono ?_
      rintro r w' ⟨rfl, rfl⟩
      go_wp2_with fail
      refine (HSB.out _ HTW.out).mono ?_
      rintro r w' ⟨rfl, rfl⟩
      go_wp2
      go_ret
      exact ⟨rfl, HTW.out, HFF.out⟩
    case pos =>
    have htn : now + j < 18446744073709551616 := by omega
    obtain ⟨t, hnt⟩ : ∃ t, t = now + j := ⟨_, rfl⟩
    rw [← hnt] at htn hgo ⊢
    have HGO := Lib.hid (show R.go (t + 1) (n - (j + 1)) (q.step t) = rf by
      rw [show n - j = (n - (j + 1)) + 1 by omega] at hgo
      exact hgo)
    have HNT := Lib.hid hnt
    have ht1 : t + 1 < 18446744073709551616 := by omega
    have I1 := Lib.hid (hq.giveA htn)
    have I3 := Lib.hid (hq.step htn)
    have HA := Lib.hid (give_A hq htn hf ht HT.out hbl)
    have HB := Lib.hid (fun z W (hbl : ∀ V, Fs w0.heap.size (S6 sa gm gl sb hm hl) w0 V → Bls V z (q.giveA t).ls) (d : Two sa gm gl sb hm hl (q.giveA t).a (q.giveA t).b (q.giveA t).ca (q.giveA t).cb W) (f : Fs w0.heap.size (S6 sa gm gl sb hm hl) w0 W) => give_B (hq.giveA htn) htn f d HT.out hbl)
    obtain ⟨q1, hq1⟩ : ∃ q1, q1 = q.giveA t := ⟨_, rfl⟩
    obtain ⟨q2, hq2⟩ : ∃ q2, q2 = q1.giveB t := ⟨_, rfl⟩
    rw [← hq1] at HA HB
    rw [← hq2] at HB
    have HST := Lib.hid (show q.step t = q2.looks by rw [hq2, hq1]; rfl)
    clear hgo hq hbl ht hf hnt hq1 hq2 htn
    go_wp2_with fail
    refine HA.out.mono ?_
    rintro r w1 ⟨z1, rfl, hbl1, ht1', hf1⟩
    go_wp2_with fail
    refine (HB.out _ _ hbl1 ht1' hf1).mono ?_
    rintro r w2 ⟨z2, rfl, hbl2, ht2, hf2⟩
    have HBL := Lib.hid hbl2
    have HT2 := Lib.hid ht2
    have HF2 := Lib.hid hf2
    clear hbl1 ht1' hf1 hbl2 ht2 hf2 HA HB
    obtain ⟨a2, ha2⟩ : ∃ a2, a2 = q2.a := ⟨_, rfl⟩
    obtain ⟨b2, hb2⟩ : ∃ b2, b2 = q2.b := ⟨_, rfl⟩
    obtain ⟨ca, hca⟩ : ∃ ca, ca = q2.ca := ⟨_, rfl⟩
    obtain ⟨cb, hcb⟩ : ∃ cb, cb = q2.cb := ⟨_, rfl⟩
    have HLS := Lib.hid (show q.step t = ⟨a2.look (max ca a2.goal), b2.look (max cb b2.goal), max ca a2.goal, max cb b2.goal, q2.ls⟩ by rw [HST.out, ha2, hb2, hca, hcb]; rfl)
    rw [← ha2, ← hb2, ← hca, ← hcb] at HT2
    clear ha2 hb2 hca hcb HST
    have HGA := Lib.hid (fun x y W (d : Two sa gm gl sb hm hl a2 b2 x y W) => mgoal_any a2 gm gl W d.p)
    have HGB := Lib.hid (fun x y W (d : Two sa gm gl sb hm hl a2 b2 x y W) => mgoal_any b2 hm hl W d.q)
    have HLA := Lib.hid (fun c x y W (d : Two sa gm gl sb hm hl a2 b2 x y W) => mlook_any a2 c gm gl W d.p)
    have HLB := Lib.hid (fun a c x y W (d : Two sa gm gl sb hm hl a b2 x y W) => mlook_any b2 c hm hl W d.q)
    generalize hA : max ca a2.goal = ma at *
    generalize hB : max cb b2.goal = mb at *
    have HMA := Lib.hid hA
    have HMB := Lib.hid hB
    clear hA hB
    go_upto_region 6 with fail
    refine Draw.wp_region_prefix 13 (fun W => Two sa gm gl sb hm hl a2 b2 ca cb W ∧ Fs w0.heap.size (S6 sa gm gl sb hm hl) w0 W) (fun W W' => Below W.heap.size W W') (fun i W vv => match i with
        | 0 => vv = .pointer (some ⟨sa, 0, none⟩)
        | 1 => vv = .pointer (some ⟨sa, 0, none⟩)
        | 2 => vv = .pointer (some ⟨sa, 0, none⟩)
        | 3 => vv = .pointer (some ⟨sa, 1, none⟩)
        | 4 => vv = .int .u64 ca
        | 5 => vv = .pointer (some ⟨sa, 0, none⟩)
        | 6 => vv = .pointer (some ⟨sa, 0, none⟩)
        | 7 => vv = .pointer (some ⟨sa, 0, none⟩)
        | 8 => vv = .pointer (some ⟨gm, 0, none⟩)
        | 9 => vv = .int .u64 a2.goal
        | 10 => vv = .int .u64 ma
        | 11 => vv = .pointer (some ⟨sa, 0, none⟩)
        | _ => vv = .pointer (some ⟨sa, 1, none⟩)) (by kernel_rfl) (by kernel_rfl) (by decide) rfl (by decide) (by decide) (by decide) ?_ ⟨HT2.out.drew, HF2.out.drew⟩ ?_ [27, 28, 29, 30, 31, 32, 33, 34, 35, 36, 37, 38, 39] (by rfl) 1 (by rfl) ?_
    · intro i W W' vv he hf
      exact hf
    · refine ⟨?_, ?_, ?_, ?_, ?_, ?_, ?_, ?_, ?_, ?_, ?_, ?_, ?_, trivial⟩
      all_goals intro ρ W hJ hc hf hKn
      · refine Draw.Goes.plain rfl ?_
        exact Draw.Runs.value (w' := W) (v := ρ (.tmp 0)) rfl ⟨hJ, Below.refl _ _, hKn.1.2 0 rfl⟩
      · refine Draw.Goes.plain rfl ?_
        exact Draw.Runs.value (w' := W) (v := ρ (.tmp 0)) rfl ⟨hJ, Below.refl _ _, hKn.1.2 0 rfl⟩
      · refine Draw.Goes.plain rfl ?_
        have h0 : ρ (.tmp 28) = .pointer (some ⟨sa, 0, none⟩) := hKn.1.get 1 28 rfl rfl
        refine Draw.Runs.value (w' := W) (v := .pointer (some ⟨sa, 0, none⟩)) ?_ ⟨hJ, Below.refl _ _, rfl⟩
        simp only [execOp]; go_simp
      · refine Draw.Goes.plain rfl ?_
        have h0 : ρ (.tmp 29) = .pointer (some ⟨sa, 0, none⟩) := hKn.1.get 2 29 rfl rfl
        refine Draw.Runs.value (w' := W) (v := .pointer (some ⟨sa, 1, none⟩)) ?_ ⟨hJ, Below.refl _ _, rfl⟩
        simp only [execOp]; go_simp
      · refine Draw.Goes.plain rfl ?_
        have h0 : ρ (.tmp 30) = .pointer (some ⟨sa, 1, none⟩) := hKn.1.get 3 30 rfl rfl
        have c : W.cell? ⟨sa, 1, none⟩ = some (.int .u64 ca) := hJ.1.x.cell _ rfl
        refine Draw.Runs.value (w' := W) (v := .int .u64 ca) ?_ ⟨hJ, Below.refl _ _, rfl⟩
        simp only [execOp]; go_simp
      · refine Draw.Goes.plain rfl ?_
        exact Draw.Runs.value (w' := W) (v := ρ (.tmp 0)) rfl ⟨hJ, Below.refl _ _, hKn.1.2 0 rfl⟩
      · refine Draw.Goes.plain rfl ?_
        have h0 : ρ (.tmp 32) = .pointer (some ⟨sa, 0, none⟩) := hKn.1.get 5 32 rfl rfl
        refine Draw.Runs.value (w' := W) (v := .pointer (some ⟨sa, 0, none⟩)) ?_ ⟨hJ, Below.refl _ _, rfl⟩
        simp only [execOp]; go_simp
      · refine Draw.Goes.plain rfl ?_
        have h0 : ρ (.tmp 33) = .pointer (some ⟨sa, 0, none⟩) := hKn.1.get 6 33 rfl rfl
        refine Draw.Runs.value (w' := W) (v := .pointer (some ⟨sa, 0, none⟩)) ?_ ⟨hJ, Below.refl _ _, rfl⟩
        simp only [execOp]; go_simp
      · refine Draw.Goes.plain rfl ?_
        have h0 : ρ (.tmp 34) = .pointer (some ⟨sa, 0, none⟩) := hKn.1.get 7 34 rfl rfl
        have c : W.cell? ⟨sa, 0, none⟩ = some (.pointer (some ⟨gm, 0, none⟩)) := hJ.1.x.cell _ rfl
        refine Draw.Runs.value (w' := W) (v := .pointer (some ⟨gm, 0, none⟩)) ?_ ⟨hJ, Below.refl _ _, rfl⟩
        simp only [execOp]; go_simp
      · refine Draw.Goes.plain rfl ?_
        have h0 : ρ (.tmp 35) = .pointer (some ⟨gm, 0, none⟩) := hKn.1.get 8 35 rfl rfl
        refine Draw.Runs.enter (f := 50) (args := #[.pointer (some ⟨gm, 0, none⟩)]) ?_ ((HGA.out _ _ W hJ.1).mono fun e W' ⟨he, hb⟩ => ⟨_, he, by subst hb; exact hJ, by subst hb; exact Below.refl _ _, rfl⟩)
        simp only [execOp]; go_simp
      · refine Draw.Goes.plain rfl ?_
        have h0 : ρ (.tmp 31) = .int .u64 ca := hKn.1.get 4 31 rfl rfl
        have h1 : ρ (.tmp 36) = .int .u64 a2.goal := hKn.1.get 9 36 rfl rfl
        refine Draw.Runs.value (w' := W) (v := .int .u64 ma) ?_ ⟨hJ, Below.refl _ _, rfl⟩
        have hmc := max_cast ca a2.goal
        rw [HMA.out] at hmc
        simp only [execOp]; go_simp
        all_goals exact hmc
      · refine Draw.Goes.plain rfl ?_
        have h0 : ρ (.tmp 27) = .pointer (some ⟨sa, 0, none⟩) := hKn.1.get 0 27 rfl rfl
        refine Draw.Runs.value (w' := W) (v := .pointer (some ⟨sa, 0, none⟩)) ?_ ⟨hJ, Below.refl _ _, rfl⟩
        simp only [execOp]; go_simp
      · refine Draw.Goes.plain rfl ?_
        have h0 : ρ (.tmp 38) = .pointer (some ⟨sa, 0, none⟩) := hKn.1.get 11 38 rfl rfl
        refine Draw.Runs.value (w' := W) (v := .pointer (some ⟨sa, 1, none⟩)) ?_ ⟨hJ, Below.refl _ _, rfl⟩
        simp only [execOp]; go_simp
    · intro u W hJ hf
      have r37 : u 37 = .int .u64 ma := hf 10 _ 37 (by decide) rfl rfl
      have r39 : u 39 = .pointer (some ⟨sa, 1, none⟩) := hf 12 _ 39 (by decide) rfl rfl
      simp only [List.foldl_cons, List.foldl_nil, List.setIfInBounds_toArray, List.set_cons_succ, List.set_cons_zero, r37, r39]
      have hJ1 := hJ
      clear hJ hf HT2 HF2
      refine Draw.wpAny_one (i := 13) (by kernel_rfl) rfl rfl ?_
      refine wp_count rfl (.tmp 39) (.tmp 37) rfl sa ma ca gm hJ1.1.x rfl rfl ?_
      refine Draw.wpAny_end (by kernel_rfl) ?_
      have HT2 := Lib.hid (hJ1.1.countA ma)
      have HF2 := Lib.hid (hJ1.2.set (g := sa) (by unfold S6; simp) 1 (.int .u64 ma))
      clear hJ1
      generalize W.setCell ⟨sa, 1, none⟩ (.int .u64 ma) = w3 at *
      go_upto_region 7 with fail
      refine Draw.wp_region_prefix 13 (fun W => Two sa gm gl sb hm hl a2 b2 ma cb W ∧ Fs w0.heap.size (S6 sa gm gl sb hm hl) w0 W) (fun W W' => Below W.heap.size W W') (fun i W vv => match i with
          | 0 => vv = .pointer (some ⟨sb, 0, none⟩)
          | 1 => vv = .pointer (some ⟨sb, 0, none⟩)
          | 2 => vv = .pointer (some ⟨sb, 0, none⟩)
          | 3 => vv = .pointer (some ⟨sb, 1, none⟩)
          | 4 => vv = .int .u64 cb
          | 5 => vv = .pointer (some ⟨sb, 0, none⟩)
          | 6 => vv = .pointer (some ⟨sb, 0, none⟩)
          | 7 => vv = .pointer (some ⟨sb, 0, none⟩)
          | 8 => vv = .pointer (some ⟨hm, 0, none⟩)
          | 9 => vv = .int .u64 b2.goal
          | 10 => vv = .int .u64 mb
          | 11 => vv = .pointer (some ⟨sb, 0, none⟩)
          | _ => vv = .pointer (some ⟨sb, 1, none⟩)) (by kernel_rfl) (by kernel_rfl) (by decide) rfl (by decide) (by decide) (by decide) ?_ ⟨HT2.out.drew, HF2.out.drew⟩ ?_ [40, 41, 42, 43, 44, 45, 46, 47, 48, 49, 50, 51, 52] (by rfl) 1 (by rfl) ?_
      · intro i W W' vv he hf
        exact hf
      · refine ⟨?_, ?_, ?_, ?_, ?_, ?_, ?_, ?_, ?_, ?_, ?_, ?_, ?_, trivial⟩
        all_goals intro ρ W hJ hc hf hKn
        · refine Draw.Goes.plain rfl ?_
          exact Draw.Runs.value (w' := W) (v := ρ (.tmp 1)) rfl ⟨hJ, Below.refl _ _, hKn.1.2 1 rfl⟩
        · refine Draw.Goes.plain rfl ?_
          exact Draw.Runs.value (w' := W) (v := ρ (.tmp 1)) rfl ⟨hJ, Below.refl _ _, hKn.1.2 1 rfl⟩
        · refine Draw.Goes.plain rfl ?_
          have h0 : ρ (.tmp 41) = .pointer (some ⟨sb, 0, none⟩) := hKn.1.get 1 41 rfl rfl
          refine Draw.Runs.value (w' := W) (v := .pointer (some ⟨sb, 0, none⟩)) ?_ ⟨hJ, Below.refl _ _, rfl⟩
          simp only [execOp]; go_simp
        · refine Draw.Goes.plain rfl ?_
          have h0 : ρ (.tmp 42) = .pointer (some ⟨sb, 0, none⟩) := hKn.1.get 2 42 rfl rfl
          refine Draw.Runs.value (w' := W) (v := .pointer (some ⟨sb, 1, none⟩)) ?_ ⟨hJ, Below.refl _ _, rfl⟩
          simp only [execOp]; go_simp
        · refine Draw.Goes.plain rfl ?_
          have h0 : ρ (.tmp 43) = .pointer (some ⟨sb, 1, none⟩) := hKn.1.get 3 43 rfl rfl
          have c : W.cell? ⟨sb, 1, none⟩ = some (.int .u64 cb) := hJ.1.y.cell _ rfl
          refine Draw.Runs.value (w' := W) (v := .int .u64 cb) ?_ ⟨hJ, Below.refl _ _, rfl⟩
          simp only [execOp]; go_simp
        · refine Draw.Goes.plain rfl ?_
          exact Draw.Runs.value (w' := W) (v := ρ (.tmp 1)) rfl ⟨hJ, Below.refl _ _, hKn.1.2 1 rfl⟩
        · refine Draw.Goes.plain rfl ?_
          have h0 : ρ (.tmp 45) = .pointer (some ⟨sb, 0, none⟩) := hKn.1.get 5 45 rfl rfl
          refine Draw.Runs.value (w' := W) (v := .pointer (some ⟨sb, 0, none⟩)) ?_ ⟨hJ, Below.refl _ _, rfl⟩
          simp only [execOp]; go_simp
        · refine Draw.Goes.plain rfl ?_
          have h0 : ρ (.tmp 46) = .pointer (some ⟨sb, 0, none⟩) := hKn.1.get 6 46 rfl rfl
          refine Draw.Runs.value (w' := W) (v := .pointer (some ⟨sb, 0, none⟩)) ?_ ⟨hJ, Below.refl _ _, rfl⟩
          simp only [execOp]; go_simp
        · refine Draw.Goes.plain rfl ?_
          have h0 : ρ (.tmp 47) = .pointer (some ⟨sb, 0, none⟩) := hKn.1.get 7 47 rfl rfl
          have c : W.cell? ⟨sb, 0, none⟩ = some (.pointer (some ⟨hm, 0, none⟩)) := hJ.1.y.cell _ rfl
          refine Draw.Runs.value (w' := W) (v := .pointer (some ⟨hm, 0, none⟩)) ?_ ⟨hJ, Below.refl _ _, rfl⟩
          simp only [execOp]; go_simp
        · refine Draw.Goes.plain rfl ?_
          have h0 : ρ (.tmp 48) = .pointer (some ⟨hm, 0, none⟩) := hKn.1.get 8 48 rfl rfl
          refine Draw.Runs.enter (f := 50) (args := #[.pointer (some ⟨hm, 0, none⟩)]) ?_ ((HGB.out _ _ W hJ.1).mono fun e W' ⟨he, hb⟩ => ⟨_, he, by subst hb; exact hJ, by subst hb; exact Below.refl _ _, rfl⟩)
          simp only [execOp]; go_simp
        · refine Draw.Goes.plain rfl ?_
          have h0 : ρ (.tmp 44) = .int .u64 cb := hKn.1.get 4 44 rfl rfl
          have h1 : ρ (.tmp 49) = .int .u64 b2.goal := hKn.1.get 9 49 rfl rfl
          refine Draw.Runs.value (w' := W) (v := .int .u64 mb) ?_ ⟨hJ, Below.refl _ _, rfl⟩
          have hmc := max_cast cb b2.goal
          rw [HMB.out] at hmc
          simp only [execOp]; go_simp
          all_goals exact hmc
        · refine Draw.Goes.plain rfl ?_
          have h0 : ρ (.tmp 40) = .pointer (some ⟨sb, 0, none⟩) := hKn.1.get 0 40 rfl rfl
          refine Draw.Runs.value (w' := W) (v := .pointer (some ⟨sb, 0, none⟩)) ?_ ⟨hJ, Below.refl _ _, rfl⟩
          simp only [execOp]; go_simp
        · refine Draw.Goes.plain rfl ?_
          have h0 : ρ (.tmp 51) = .pointer (some ⟨sb, 0, none⟩) := hKn.1.get 11 51 rfl rfl
          refine Draw.Runs.value (w' := W) (v := .pointer (some ⟨sb, 1, none⟩)) ?_ ⟨hJ, Below.refl _ _, rfl⟩
          simp only [execOp]; go_simp
      · intro u W hJ hf
        have r50 : u 50 = .int .u64 mb := hf 10 _ 50 (by decide) rfl rfl
        have r52 : u 52 = .pointer (some ⟨sb, 1, none⟩) := hf 12 _ 52 (by decide) rfl rfl
        simp only [List.foldl_cons, List.foldl_nil, List.setIfInBounds_toArray, List.set_cons_succ, List.set_cons_zero, r50, r52]
        have hJ1 := hJ
        clear hJ hf HT2 HF2
        refine Draw.wpAny_one (i := 13) (by kernel_rfl) rfl rfl ?_
        refine wp_count rfl (.tmp 52) (.tmp 50) rfl sb mb cb hm hJ1.1.y rfl rfl ?_
        refine Draw.wpAny_end (by kernel_rfl) ?_
        have HT2 := Lib.hid ((hJ1.1.swap.countA mb).swap)
        have HF2 := Lib.hid (hJ1.2.set (g := sb) (by unfold S6; simp) 1 (.int .u64 mb))
        clear hJ1
        generalize W.setCell ⟨sb, 1, none⟩ (.int .u64 mb) = w3 at *
        go_upto_region 8 with fail
        refine Draw.wp_region_prefix 8 (fun W => Two sa gm gl sb hm hl a2 b2 ma mb W ∧ Fs w0.heap.size (S6 sa gm gl sb hm hl) w0 W) (fun W W' => Below W.heap.size W W') (fun i W vv => match i with
            | 0 => vv = .pointer (some ⟨sa, 0, none⟩)
            | 1 => vv = .pointer (some ⟨sa, 0, none⟩)
            | 2 => vv = .pointer (some ⟨sa, 0, none⟩)
            | 3 => vv = .pointer (some ⟨gm, 0, none⟩)
            | 4 => vv = .pointer (some ⟨sa, 0, none⟩)
            | 5 => vv = .pointer (some ⟨sa, 0, none⟩)
            | 6 => vv = .pointer (some ⟨sa, 1, none⟩)
            | _ => vv = .int .u64 ma) (by kernel_rfl) (by kernel_rfl) (by decide) rfl (by decide) (by decide) (by decide) ?_ ⟨HT2.out.drew, HF2.out.drew⟩ ?_ [53, 54, 55, 56, 57, 58, 59, 60] (by rfl) 1 (by rfl) ?_
        · intro i W W' vv he hf
          exact hf
        · refine ⟨?_, ?_, ?_, ?_, ?_, ?_, ?_, ?_, trivial⟩
          all_goals intro ρ W hJ hc hf hKn
          · refine Draw.Goes.plain rfl ?_
            exact Draw.Runs.value (w' := W) (v := ρ (.tmp 0)) rfl ⟨hJ, Below.refl _ _, hKn.1.2 0 rfl⟩
          · refine Draw.Goes.plain rfl ?_
            have h0 : ρ (.tmp 53) = .pointer (some ⟨sa, 0, none⟩) := hKn.1.get 0 53 rfl rfl
            refine Draw.Runs.value (w' := W) (v := .pointer (some ⟨sa, 0, none⟩)) ?_ ⟨hJ, Below.refl _ _, rfl⟩
            simp only [execOp]; go_simp
          · refine Draw.Goes.plain rfl ?_
            have h0 : ρ (.tmp 54) = .pointer (some ⟨sa, 0, none⟩) := hKn.1.get 1 54 rfl rfl
            refine Draw.Runs.value (w' := W) (v := .pointer (some ⟨sa, 0, none⟩)) ?_ ⟨hJ, Below.refl _ _, rfl⟩
            simp only [execOp]; go_simp
          · refine Draw.Goes.plain rfl ?_
            have h0 : ρ (.tmp 55) = .pointer (some ⟨sa, 0, none⟩) := hKn.1.get 2 55 rfl rfl
            have c : W.cell? ⟨sa, 0, none⟩ = some (.pointer (some ⟨gm, 0, none⟩)) := hJ.1.x.cell _ rfl
            refine Draw.Runs.value (w' := W) (v := .pointer (some ⟨gm, 0, none⟩)) ?_ ⟨hJ, Below.refl _ _, rfl⟩
            simp only [execOp]; go_simp
          · refine Draw.Goes.plain rfl ?_
            exact Draw.Runs.value (w' := W) (v := ρ (.tmp 0)) rfl ⟨hJ, Below.refl _ _, hKn.1.2 0 rfl⟩
          · refine Draw.Goes.plain rfl ?_
            have h0 : ρ (.tmp 57) = .pointer (some ⟨sa, 0, none⟩) := hKn.1.get 4 57 rfl rfl
            refine Draw.Runs.value (w' := W) (v := .pointer (some ⟨sa, 0, none⟩)) ?_ ⟨hJ, Below.refl _ _, rfl⟩
            simp only [execOp]; go_simp
          · refine Draw.Goes.plain rfl ?_
            have h0 : ρ (.tmp 58) = .pointer (some ⟨sa, 0, none⟩) := hKn.1.get 5 58 rfl rfl
            refine Draw.Runs.value (w' := W) (v := .pointer (some ⟨sa, 1, none⟩)) ?_ ⟨hJ, Below.refl _ _, rfl⟩
            simp only [execOp]; go_simp
          · refine Draw.Goes.plain rfl ?_
            have h0 : ρ (.tmp 59) = .pointer (some ⟨sa, 1, none⟩) := hKn.1.get 6 59 rfl rfl
            have c : W.cell? ⟨sa, 1, none⟩ = some (.int .u64 ma) := hJ.1.x.cell _ rfl
            refine Draw.Runs.value (w' := W) (v := .int .u64 ma) ?_ ⟨hJ, Below.refl _ _, rfl⟩
            simp only [execOp]; go_simp
        · intro u W hJ hf
          have r56 : u 56 = .pointer (some ⟨gm, 0, none⟩) := hf 3 _ 56 (by decide) rfl rfl
          have r60 : u 60 = .int .u64 ma := hf 7 _ 60 (by decide) rfl rfl
          simp only [List.foldl_cons, List.foldl_nil, List.setIfInBounds_toArray, List.set_cons_succ, List.set_cons_zero, r56, r60]
          have hJ1 := hJ
          clear hJ hf HT2 HF2
          refine Draw.wpAny_one (i := 8) (by kernel_rfl) rfl rfl ?_
          refine runs_at (some 61) rfl (R := fun V z => Two sa gm gl sb hm hl (a2.look ma) b2 ma mb V ∧ Fs w0.heap.size (S6 sa gm gl sb hm hl) w0 V) (Draw.Runs.enter (f := 46) (args := #[.pointer (some ⟨gm, 0, none⟩), .int .u64 ma]) (by simp only [execOp]; go_simp) ((HLA.out ma _ _ W hJ1.1).mono fun e W' ⟨he, hb, hk⟩ => ⟨_, he, hJ1.1.atA hb (kq_kp' hk), hJ1.2.trans (Fs.kq (kq_kp' (q := gl) hk) hJ1.2.size (by unfold S6; simp) (by unfold S6; simp))⟩)) ?_
          rintro w3 z3 hT3
          refine Draw.wpAny_end (by kernel_rfl) ?_
          simp only [Act.put, List.setIfInBounds_toArray, List.set_cons_succ, List.set_cons_zero]
          have HT2 := Lib.hid hT3.1
          have HF2 := Lib.hid hT3.2
          clear hJ1 hT3
          go_upto_region 9 with fail
          refine Draw.wp_region_prefix 8 (fun W => Two sa gm gl sb hm hl (a2.look ma) b2 ma mb W ∧ Fs w0.heap.size (S6 sa gm gl sb hm hl) w0 W) (fun W W' => Below W.heap.size W W') (fun i W vv => match i with
              | 0 => vv = .pointer (some ⟨sb, 0, none⟩)
              | 1 => vv = .pointer (some ⟨sb, 0, none⟩)
              | 2 => vv = .pointer (some ⟨sb, 0, none⟩)
              | 3 => vv = .pointer (some ⟨hm, 0, none⟩)
              | 4 => vv = .pointer (some ⟨sb, 0, none⟩)
              | 5 => vv = .pointer (some ⟨sb, 0, none⟩)
              | 6 => vv = .pointer (some ⟨sb, 1, none⟩)
              | _ => vv = .int .u64 mb) (by kernel_rfl) (by kernel_rfl) (by decide) rfl (by decide) (by decide) (by decide) ?_ ⟨HT2.out.drew, HF2.out.drew⟩ ?_ [62, 63, 64, 65, 66, 67, 68, 69] (by rfl) 1 (by rfl) ?_
          · intro i W W' vv he hf
            exact hf
          · refine ⟨?_, ?_, ?_, ?_, ?_, ?_, ?_, ?_, trivial⟩
            all_goals intro ρ W hJ hc hf hKn
            · refine Draw.Goes.plain rfl ?_
              exact Draw.Runs.value (w' := W) (v := ρ (.tmp 1)) rfl ⟨hJ, Below.refl _ _, hKn.1.2 1 rfl⟩
            · refine Draw.Goes.plain rfl ?_
              have h0 : ρ (.tmp 62) = .pointer (some ⟨sb, 0, none⟩) := hKn.1.get 0 62 rfl rfl
              refine Draw.Runs.value (w' := W) (v := .pointer (some ⟨sb, 0, none⟩)) ?_ ⟨hJ, Below.refl _ _, rfl⟩
              simp only [execOp]; go_simp
            · refine Draw.Goes.plain rfl ?_
              have h0 : ρ (.tmp 63) = .pointer (some ⟨sb, 0, none⟩) := hKn.1.get 1 63 rfl rfl
              refine Draw.Runs.value (w' := W) (v := .pointer (some ⟨sb, 0, none⟩)) ?_ ⟨hJ, Below.refl _ _, rfl⟩
              simp only [execOp]; go_simp
            · refine Draw.Goes.plain rfl ?_
              have h0 : ρ (.tmp 64) = .pointer (some ⟨sb, 0, none⟩) := hKn.1.get 2 64 rfl rfl
              have c : W.cell? ⟨sb, 0, none⟩ = some (.pointer (some ⟨hm, 0, none⟩)) := hJ.1.y.cell _ rfl
              refine Draw.Runs.value (w' := W) (v := .pointer (some ⟨hm, 0, none⟩)) ?_ ⟨hJ, Below.refl _ _, rfl⟩
              simp only [execOp]; go_simp
            · refine Draw.Goes.plain rfl ?_
              exact Draw.Runs.value (w' := W) (v := ρ (.tmp 1)) rfl ⟨hJ, Below.refl _ _, hKn.1.2 1 rfl⟩
            · refine Draw.Goes.plain rfl ?_
              have h0 : ρ (.tmp 66) = .pointer (some ⟨sb, 0, none⟩) := hKn.1.get 4 66 rfl rfl
              refine Draw.Runs.value (w' := W) (v := .pointer (some ⟨sb, 0, none⟩)) ?_ ⟨hJ, Below.refl _ _, rfl⟩
              simp only [execOp]; go_simp
            · refine Draw.Goes.plain rfl ?_
              have h0 : ρ (.tmp 67) = .pointer (some ⟨sb, 0, none⟩) := hKn.1.get 5 67 rfl rfl
              refine Draw.Runs.value (w' := W) (v := .pointer (some ⟨sb, 1, none⟩)) ?_ ⟨hJ, Below.refl _ _, rfl⟩
              simp only [execOp]; go_simp
            · refine Draw.Goes.plain rfl ?_
              have h0 : ρ (.tmp 68) = .pointer (some ⟨sb, 1, none⟩) := hKn.1.get 6 68 rfl rfl
              have c : W.cell? ⟨sb, 1, none⟩ = some (.int .u64 mb) := hJ.1.y.cell _ rfl
              refine Draw.Runs.value (w' := W) (v := .int .u64 mb) ?_ ⟨hJ, Below.refl _ _, rfl⟩
              simp only [execOp]; go_simp
          · intro u W hJ hf
            have r65 : u 65 = .pointer (some ⟨hm, 0, none⟩) := hf 3 _ 65 (by decide) rfl rfl
            have r69 : u 69 = .int .u64 mb := hf 7 _ 69 (by decide) rfl rfl
            simp only [List.foldl_cons, List.foldl_nil, List.setIfInBounds_toArray, List.set_cons_succ, List.set_cons_zero, r65, r69]
            have hJ1 := hJ
            clear hJ hf HT2 HF2
            refine Draw.wpAny_one (i := 8) (by kernel_rfl) rfl rfl ?_
            refine runs_at (some 70) rfl (R := fun V z => Two sa gm gl sb hm hl (a2.look ma) (b2.look mb) ma mb V ∧ Fs w0.heap.size (S6 sa gm gl sb hm hl) w0 V) (Draw.Runs.enter (f := 46) (args := #[.pointer (some ⟨hm, 0, none⟩), .int .u64 mb]) (by simp only [execOp]; go_simp) ((HLB.out _ mb _ _ W hJ1.1).mono fun e W' ⟨he, hb, hk⟩ => ⟨_, he, hJ1.1.atB hb (kq_kp' hk), hJ1.2.trans (Fs.kq (kq_kp' (q := hl) hk) hJ1.2.size (by unfold S6; simp) (by unfold S6; simp))⟩)) ?_
            rintro w3 z3 hT3
            refine Draw.wpAny_end (by kernel_rfl) ?_
            simp only [Act.put, List.setIfInBounds_toArray, List.set_cons_succ, List.set_cons_zero]
            have HT2 := Lib.hid hT3.1
            have HF2 := Lib.hid hT3.2
            clear hJ1 hT3
            go_wp2
            go_roundw
            case rel => exact ⟨j + 1, q.step t, by omega, by go_num, by rw [show now + (j + 1) = t + 1 by have := HNT.out; omega]; go_num, by rw [show now + (j + 1) = t + 1 by have := HNT.out; omega]; exact HGO.out, I3.out, by rw [HLS.out]; exact HBL.out, by rw [HLS.out]; exact HT2.out, HF2.out⟩
            case measure => simp [intOf]; omega
end Go.Proofs.YtdgbililgkhjfaaDoor.Rs
namespace Go.Proofs.YtdgbililgkhjfaaDoor.Rs
open Go.RowKit Go.Proofs.YtdgbililgkhjfaaDoor.Crc Go.Proofs.YtdgbililgkhjfaaDoor.Codec Go.Proofs.YtdgbililgkhjfaaDoor.Pk Go.Proofs.YtdgbililgkhjfaaDoor.CrcWalk Go.Proofs.YtdgbililgkhjfaaDoor.Frame
open Go.Proofs.YtdgbililgkhjfaaDoor.Lk (L lc nS mayL far_blk range_below epoch_any)
set_option linter.unusedVariables false
set_option linter.unusedSimpArgs false
theorem min_cast (c : Nat) : (if (1152921504606846976 : Int) < (c : Int) then (1152921504606846976 : Int) else (c : Int)) = ((min c 1152921504606846976 : Nat) : Int) := by split <;> omega
theorem min_cast2 (c : Nat) : (if 1152921504606846976 < c then (1152921504606846976 : Int) else (c : Int)) = ((min c 1152921504606846976 : Nat) : Int) := by split <;> omega
/-- A machine that was made just now. -/
def NewP (p e ev base : Nat) (W : World) (v : Value) : Prop := ∃ gm gl, v = .pointer (some ⟨gm, 0, none⟩) ∧ Mb gm gl (M.make p e ev) W ∧ base ≤ gm ∧ base ≤ gl
def BldP (p e ev base c : Nat) (W : World) (v : Value) : Prop := ∃ gm gl, v = .agg (dc gm c) ∧ Mb gm gl (M.make p e ev) W ∧ base ≤ gm ∧ base ≤ gl
def BoxP (p e ev base c : Nat) (W : World) (v : Value) : Prop := ∃ sa, v = .pointer (some ⟨sa, 0, none⟩) ∧ ∃ gm gl, Blk W sa (dc gm c) DT ∧ Mb gm gl (M.make p e ev) W ∧ base ≤ sa ∧ base ≤ gm ∧ base ≤ gl
theorem NewP.call {p e ev base : Nat} {W W' : World} {v : Value} (h : NewP p e ev base W v) (hb : Below W.heap.size W W') : NewP p e ev base W' v := by
  obtain ⟨gm, gl, h1, h2, h3⟩ := h
  exact ⟨gm, gl, h1, h2.call hb, h3⟩
theorem BldP.call {p e ev base c : Nat} {W W' : World} {v : Value} (h : BldP p e ev base c W v) (hb : Below W.heap.size W W') : BldP p e ev base c W' v := by
  obtain ⟨gm, gl, h1, h2, h3⟩ := h
  exact ⟨gm, gl, h1, h2.call hb, h3⟩
theorem BoxP.call {p e ev base c : Nat} {W W' : World} {v : Value} (h : BoxP p e ev base c W v) (hb : Below W.heap.size W W') : BoxP p e ev base c W' v := by
  obtain ⟨sa, h1, gm, gl, h2, h3, h4⟩ := h
  exact ⟨sa, h1, gm, gl, (hb.block _ h2.lt).trans h2, h3.call hb, h4⟩
theorem Bls.spell {W : World} {v : Value} {ls : List Bool} (h : Bls W v ls) : ∃ p c, v = .slice p ls.length c := by
  obtain ⟨p, c, h1, _⟩ := h
  exact ⟨p, c, h1⟩
theorem blk_below {W W' : World} {g : Nat} {cs : Array Value} {t : TypeId} {B : Nat} (h : Blk W g cs t) (hb : Below B W W') (hg : g < B) : Blk W' g cs t := (hb.block _ hg).trans h
set_option maxRecDepth 100000 in
set_option maxHeartbeats 16000000 in
/-- P27.4: the law ResumeMeets. -/
theorem meets_law (e0 e1 e2 c0 c1 y : Nat) (l1 l2 : List Bool) (v1 v2 : Value) (w : World) (b0 : e0 < 18446744073709551616) (b1 : e1 < 18446744073709551616) (b2 : e2 < 18446744073709551616) (hc0 : c0 < 18446744073709551616) (hc1 : c1 < 18446744073709551616) (hy : y < 256)
    (h1 : Bls w v1 l1) (h2 : Bls w v2 l2) (hT : Tab w) :
    Calls Tryd.prog 15 #[.agg #[.int .u64 e0, .int .u64 e1, .int .u64 e2], .agg #[.int .u64 c0, .int .u64 c1], .agg #[v1, v2, .int .u8 y]] w fun r w' => r = .returned (.bool true) ∧ Below w.heap.size w w' := by
  obtain ⟨p1, k1, rfl⟩ := h1.spell
  obtain ⟨p2, k2, rfl⟩ := h2.spell
  have H1 := Lib.hid h1
  have H2 := Lib.hid h2
  have HTT := Lib.hid hT
  have HAW := Lib.hid (fun W => awake_any W)
  have B0 := Lib.hid b0
  have B1 := Lib.hid b1
  have B2 := Lib.hid b2
  obtain ⟨ev, hev⟩ : ∃ ev, ev = 1 + y % 16 := ⟨_, rfl⟩
  have HEV := Lib.hid hev
  have HV0 := Lib.hid (show 0 < ev by omega)
  have HV1 := Lib.hid (show ev ≤ 16 by omega)
  obtain ⟨n1, hn1⟩ : ∃ n, n = l1.length := ⟨_, rfl⟩
  obtain ⟨n2, hn2⟩ : ∃ n, n = l2.length := ⟨_, rfl⟩
  rw [← hn1, ← hn2]
  rw [← hn1] at H1
  rw [← hn2] at H2
  have HN1 := Lib.hid hn1
  have HN2 := Lib.hid hn2
  obtain ⟨d0, hd0⟩ : ∃ d, d = min c0 1152921504606846976 := ⟨_, rfl⟩
  obtain ⟨d1, hd1⟩ : ∃ d, d = min c1 1152921504606846976 := ⟨_, rfl⟩
  have HD0 := Lib.hid hd0
  have HD1 := Lib.hid hd1
  have HW1 := Lib.hid (show d0 < 18446744073709551616 by omega)
  have HW2 := Lib.hid (show d1 < 18446744073709551616 by omega)
  obtain ⟨X, hX⟩ : ∃ X, X = decide (e0 = 0 ∨ e1 = 0 ∨ e2 ≤ e0 ∨ 40 < n1 ∨ 40 < n2) := ⟨_, rfl⟩
  have HX := Lib.hid hX
  have he : Blk (((w.alloc (.cells #[.int .u64 e0, .int .u64 e1, .int .u64 e2] 96)).alloc (.cells #[.int .u64 c0, .int .u64 c1] 97)).alloc (.cells #[.slice p1 n1 k1, .slice p2 n2 k2, .int .u8 y] 100)) w.heap.size #[.int .u64 e0, .int .u64 e1, .int .u64 e2] 96 := Blk.alloc (Blk.alloc (heap_alloc_new w _) _) _
  have hc : Blk (((w.alloc (.cells #[.int .u64 e0, .int .u64 e1, .int .u64 e2] 96)).alloc (.cells #[.int .u64 c0, .int .u64 c1] 97)).alloc (.cells #[.slice p1 n1 k1, .slice p2 n2 k2, .int .u8 y] 100)) (w.heap.size + 1) #[.int .u64 c0, .int .u64 c1] 97 := by
    have e3 : (w.alloc (.cells #[.int .u64 e0, .int .u64 e1, .int .u64 e2] 96)).heap.size = w.heap.size + 1 := by simp
    rw [← e3]; exact Blk.alloc (heap_alloc_new _ _) _
  have hh : Blk (((w.alloc (.cells #[.int .u64 e0, .int .u64 e1, .int .u64 e2] 96)).alloc (.cells #[.int .u64 c0, .int .u64 c1] 97)).alloc (.cells #[.slice p1 n1 k1, .slice p2 n2 k2, .int .u8 y] 100)) (w.heap.size + 1 + 1) #[.slice p1 n1 k1, .slice p2 n2 k2, .int .u8 y] 100 := by
    have e3 : ((w.alloc (.cells #[.int .u64 e0, .int .u64 e1, .int .u64 e2] 96)).alloc (.cells #[.int .u64 c0, .int .u64 c1] 97)).heap.size = w.heap.size + 1 + 1 := by simp
    rw [← e3]; exact heap_alloc_new _ _
  have hB1 : Below w.heap.size w (((w.alloc (.cells #[.int .u64 e0, .int .u64 e1, .int .u64 e2] 96)).alloc (.cells #[.int .u64 c0, .int .u64 c1] 97)).alloc (.cells #[.slice p1 n1 k1, .slice p2 n2 k2, .int .u8 y] 100)) := (((Below.refl _ w).alloc (Nat.le_refl _) _).alloc (by simp) _).alloc (by simp; omega) _
  have HE := Lib.hid he
  have HC := Lib.hid hc
  have HH := Lib.hid hh
  have HB1 := Lib.hid hB1
  clear he hc hh hB1 h1 h2 hT b0 b1 b2 hev hn1 hn2 hd0 hd1 hX hc0 hc1
  have q0 := HE.out.cell (off := 0) _ rfl
  have q1 := HE.out.cell (off := 1) _ rfl
  have q2 := HE.out.cell (off := 2) _ rfl
  have q3 := HH.out.cell (off := 0) _ rfl
  have q4 := HH.out.cell (off := 1) _ rfl
  have q5 := HH.out.cell (off := 2) _ rfl
  go_enter Tryd.func15, Tryd.ntmps15
  go_upto_region 1 with fail
  change Code.wp _ _ _ _ (((w.alloc (.cells #[.int .u64 e0, .int .u64 e1, .int .u64 e2] 96)).alloc (.cells #[.int .u64 c0, .int .u64 c1] 97)).alloc (.cells #[.slice p1 n1 k1, .slice p2 n2 k2, .int .u8 y] 100))
  generalize ((w.alloc (.cells #[.int .u64 e0, .int .u64 e1, .int .u64 e2] 96)).alloc (.cells #[.int .u64 c0, .int .u64 c1] 97)).alloc (.cells #[.slice p1 n1 k1, .slice p2 n2 k2, .int .u8 y] 100) = w1 at *
  go_cut [7] (fun z wx => z = .int .i64 ev ∧ w1 = wx)
  case first =>
    go_wp2
    go_meet
    exact ⟨congrArg (Value.int .i64) (by have := HEV.out; omega), rfl⟩
  case rest =>
  obtain ⟨rfl, rfl⟩ := hcut
  clear q5
  go_upto_region 2 with fail
  go_cut [44] (fun z wx => z = .bool X ∧ w1 = wx)
  case first =>
    have HT1 := Lib.hid (fun h => show X = true by rw [HX.out]; exact decide_eq_true h)
    by_cases g0 : e0 = 0
    · have t0 : ((e0 : Int) == 0) = true := by rw [g0]; rfl
      have HQ := Lib.hid (HT1.out (.inl g0))
      clear g0
      go_wp2
      go_meet
      exact ⟨by rw [HQ.out], rfl⟩
    have t0 : ((e0 : Int) == 0) = false := by rw [beq_eq_false_iff_ne]; omega
    by_cases g1 : e1 = 0
    · have t1 : ((e1 : Int) == 0) = true := by rw [g1]; rfl
      have HQ := Lib.hid (HT1.out (.inr (.inl g1)))
      clear g0 g1
      go_wp2
      go_meet
      exact ⟨by rw [HQ.out], rfl⟩
    have t1 : ((e1 : Int) == 0) = false := by rw [beq_eq_false_iff_ne]; omega
    by_cases g2 : e2 ≤ e0
    · have t2 : decide (e2 ≤ e0) = true := decide_eq_true (by omega)
      have HQ := Lib.hid (HT1.out (.inr (.inr (.inl g2))))
      clear g0 g1 g2
      go_wp2
      go_meet
      exact ⟨by rw [HQ.out], rfl⟩
    have t2 : decide (e2 ≤ e0) = false := decide_eq_false (by omega)
    by_cases g3 : 40 < n1
    · have t3 : decide ((40 : Int) < (n1 : Int)) = true := decide_eq_true (by omega)
      have HQ := Lib.hid (HT1.out (.inr (.inr (.inr (.inl g3)))))
      clear g0 g1 g2
      go_wp2
      go_meet
      exact ⟨by rw [HQ.out], rfl⟩
    have t3 : decide ((40 : Int) < (n1 : Int)) = false := decide_eq_false (by omega)
    by_cases g4 : 40 < n2
    · have t4 : decide ((40 : Int) < (n2 : Int)) = true := decide_eq_true (by omega)
      have HQ := Lib.hid (HT1.out (.inr (.inr (.inr (.inr g4)))))
      clear g0 g1 g2
      go_wp2
      go_meet
      exact ⟨by rw [HQ.out], rfl⟩
    have t4 : decide ((40 : Int) < (n2 : Int)) = false := decide_eq_false (by omega)
    have HQ := Lib.hid (show X = false by rw [HX.out]; exact decide_eq_false (by omega))
    clear g0 g1 g2
    go_wp2
    go_meet
    exact ⟨by rw [HQ.out], rfl⟩
  case rest =>
  obtain ⟨rfl, rfl⟩ := hcut
  cases X with
  | true =>
    clear q0 q1 q2 q3 q4
    have HBB := Lib.hid HB1.out
    go_wp2_with fail
    refine (HAW.out _).mono ?_
    rintro r w2 ⟨rfl, hb⟩
    have HF := Lib.hid (HBB.out.trans (hb.mono HBB.out.size))
    clear hb
    go_wp2
    go_ret
    exact ⟨rfl, HF.out⟩
  | false =>
  have HG := Lib.hid (show e0 ≠ 0 ∧ e1 ≠ 0 ∧ e0 < e2 ∧ n1 ≤ 40 ∧ n2 ≤ 40 by
    have := of_decide_eq_false HX.out.symm
    omega)
  clear q0 q1 q2 q3 q4
  have HNA := Lib.hid (fun W => mnew_yes 0 e0 ev W ⟨by decide, by have := HG.out; omega, by have := HV0.out; omega, by have := HV1.out; omega⟩ B0.out)
  have HNB := Lib.hid (fun W => mnew_yes 1 e1 ev W ⟨by decide, by have := HG.out; omega, by have := HV0.out; omega, by have := HV1.out; omega⟩ B1.out)
  have HNC := Lib.hid (fun W => mnew_yes 0 e2 ev W ⟨by decide, by have := HG.out; omega, by have := HV0.out; omega, by have := HV1.out; omega⟩ B2.out)
  have HSZ := Lib.hid (show w.heap.size + 1 + 1 < w1.heap.size from HH.out.lt)
  go_upto_region 4 with fail
  refine Draw.wp_region_frame (fun W => Below w1.heap.size w1 W) (fun W W' => Below W.heap.size W W') (fun i W vv => match i with
      | 0 => vv = .pointer (some ⟨w.heap.size, 0, none⟩)
      | 1 => vv = .int .u64 e0
      | 2 => vv = .int .i64 ev
      | 3 => NewP 0 e0 ev w1.heap.size W vv
      | 4 => vv = .pointer (some ⟨w.heap.size + 1, 0, none⟩)
      | 5 => vv = .int .u64 c0
      | 6 => vv = .int .u64 d0
      | 7 => BldP 0 e0 ev w1.heap.size d0 W vv
      | 8 => BoxP 0 e0 ev w1.heap.size d0 W vv
      | _ => BoxP 0 e0 ev w1.heap.size d0 W vv) (by kernel_rfl) (by kernel_rfl) (by decide) rfl ?_ (Below.refl _ w1).drew ?_ [46, 47, 48, 49, 50, 51, 52, 53, 54, 8] (by rfl) ?_
  · intro i W W' vv he hf
    match i with
    | 3 => exact NewP.call hf he
    | 7 => exact BldP.call hf he
    | 8 => exact BoxP.call hf he
    | n + 9 => exact BoxP.call hf he
    | 0 | 1 | 2 | 4 | 5 | 6 => exact hf
  · refine ⟨?_, ?_, ?_, ?_, ?_, ?_, ?_, ?_, ?_, ?_, trivial⟩
    all_goals intro ρ W hJ hc hf hKn
    · refine Draw.Goes.plain rfl ?_
      have h0 : ρ (.tmp 3) = .pointer (some ⟨w.heap.size, 0, none⟩) := hKn.1.2 3 rfl
      refine Draw.Runs.value (w' := W) (v := .pointer (some ⟨w.heap.size, 0, none⟩)) ?_ ⟨hJ, Below.refl _ _, rfl⟩
      simp only [execOp]; go_simp
    · refine Draw.Goes.plain rfl ?_
      have h0 : ρ (.tmp 46) = .pointer (some ⟨w.heap.size, 0, none⟩) := hKn.1.get 0 46 rfl rfl
      have c : W.cell? ⟨w.heap.size, 0, none⟩ = some (.int .u64 e0) := (blk_below HE.out hJ HE.out.lt).cell _ rfl
      refine Draw.Runs.value (w' := W) (v := .int .u64 e0) ?_ ⟨hJ, Below.refl _ _, rfl⟩
      simp only [execOp]; go_simp
    · refine Draw.Goes.plain rfl ?_
      exact Draw.Runs.value (w' := W) (v := ρ (.tmp 7)) rfl ⟨hJ, Below.refl _ _, hKn.1.2 7 rfl⟩
    · refine Draw.Goes.plain rfl ?_
      have h0 : ρ (.tmp 47) = .int .u64 e0 := hKn.1.get 1 47 rfl rfl
      have h1 : ρ (.tmp 48) = .int .i64 ev := hKn.1.get 2 48 rfl rfl
      refine Draw.Runs.enter (f := 41) (args := #[.int .u8 0, .int .u64 e0, .int .i64 ev]) ?_ ((HNA.out W).mono fun e W' ⟨gm, gl, he, hp, hb, j1, j2⟩ => ⟨_, he, hJ.trans (Below.mono hb hJ.size), hb, gm, gl, rfl, hp, Nat.le_trans hJ.size j1, Nat.le_trans hJ.size j2⟩)
      simp only [execOp]; go_simp
    · refine Draw.Goes.plain rfl ?_
      have h0 : ρ (.tmp 4) = .pointer (some ⟨w.heap.size + 1, 0, none⟩) := hKn.1.2 4 rfl
      refine Draw.Runs.value (w' := W) (v := .pointer (some ⟨w.heap.size + 1, 0, none⟩)) ?_ ⟨hJ, Below.refl _ _, rfl⟩
      simp only [execOp]; go_simp
    · refine Draw.Goes.plain rfl ?_
      have h0 : ρ (.tmp 50) = .pointer (some ⟨w.heap.size + 1, 0, none⟩) := hKn.1.get 4 50 rfl rfl
      have c : W.cell? ⟨w.heap.size + 1, 0, none⟩ = some (.int .u64 c0) := (blk_below HC.out hJ HC.out.lt).cell _ rfl
      refine Draw.Runs.value (w' := W) (v := .int .u64 c0) ?_ ⟨hJ, Below.refl _ _, rfl⟩
      simp only [execOp]; go_simp
    · refine Draw.Goes.plain rfl ?_
      have h0 : ρ (.tmp 51) = .int .u64 c0 := hKn.1.get 5 51 rfl rfl
      refine Draw.Runs.value (w' := W) (v := .int .u64 d0) ?_ ⟨hJ, Below.refl _ _, rfl⟩
      have hmc := min_cast c0
      have hmd := min_cast2 c0
      rw [← HD0.out] at hmc hmd
      simp only [execOp]; go_simp
      all_goals first | exact hmc | exact hmd
    · refine Draw.Goes.plain rfl ?_
      have h0 : NewP 0 e0 ev w1.heap.size W (ρ (.tmp 49)) := hKn.1.get 3 49 rfl rfl
      have h1 : ρ (.tmp 52) = .int .u64 d0 := hKn.1.get 6 52 rfl rfl
      obtain ⟨gm, gl, h0, hp, j1, j2⟩ := h0
      refine Draw.Runs.value (w' := W) (v := .agg (dc gm d0)) ?_ ⟨hJ, Below.refl _ _, gm, gl, rfl, hp, j1, j2⟩
      simp only [execOp, dc]; go_simp
    · refine Draw.Goes.plain rfl ?_
      have h0 : BldP 0 e0 ev w1.heap.size d0 W (ρ (.tmp 53)) := hKn.1.get 7 53 rfl rfl
      obtain ⟨gm, gl, h0, hp, j1, j2⟩ := h0
      refine Draw.Runs.value (w' := W.alloc (.cells (dc gm d0) DT)) (v := .pointer (some ⟨W.heap.size, 0, none⟩)) ?_ ⟨hJ.trans (Below.mono (bel_alloc _ _) hJ.size), bel_alloc _ _, W.heap.size, rfl, gm, gl, heap_alloc_new W _, hp.call (bel_alloc _ _), hJ.size, j1, j2⟩
      unfold dc at h0 ⊢
      simp only [execOp]; go_simp
    · refine Draw.Goes.plain rfl ?_
      exact Draw.Runs.value (w' := W) (v := ρ (.tmp 54)) rfl ⟨hJ, Below.refl _ _, hKn.1.get 8 54 rfl rfl⟩
  · intro u4 w2 hJ hf
    obtain ⟨gg8, r8, hb8⟩ : BoxP 0 e0 ev w1.heap.size d0 w2 (u4 8) := hf 9 _ 8 rfl rfl
    simp only [List.foldl_cons, List.foldl_nil, List.setIfInBounds_toArray, List.set_cons_succ, List.set_cons_zero, r8]
    obtain ⟨gm, gl, hx, hp, j1, j2, j3⟩ := hb8
    have HAB := Lib.hid hx
    have HAM := Lib.hid hp
    have HAO := Lib.hid (show w1.heap.size ≤ gg8 ∧ w1.heap.size ≤ gm ∧ w1.heap.size ≤ gl from ⟨j1, j2, j3⟩)
    have HBW := Lib.hid (show Below w.heap.size w w2 from HB1.out.trans (Below.mono hJ HB1.out.size))
    have HE := Lib.hid (blk_below HE.out hJ HE.out.lt)
    have HC := Lib.hid (blk_below HC.out hJ HC.out.lt)
    have HH := Lib.hid (blk_below HH.out hJ HH.out.lt)
    have HSZ2 := Lib.hid hJ.size
    clear hJ hf hx hp j1 j2 j3
    go_upto_region 5 with fail
    refine Draw.wp_region_frame (fun W => Below w2.heap.size w2 W) (fun W W' => Below W.heap.size W W') (fun i W vv => match i with
        | 0 => vv = .pointer (some ⟨w.heap.size, 1, none⟩)
        | 1 => vv = .int .u64 e1
        | 2 => vv = .int .i64 ev
        | 3 => NewP 1 e1 ev w2.heap.size W vv
        | 4 => vv = .pointer (some ⟨w.heap.size + 1, 1, none⟩)
        | 5 => vv = .int .u64 c1
        | 6 => vv = .int .u64 d1
        | 7 => BldP 1 e1 ev w2.heap.size d1 W vv
        | 8 => BoxP 1 e1 ev w2.heap.size d1 W vv
        | _ => BoxP 1 e1 ev w2.heap.size d1 W vv) (by kernel_rfl) (by kernel_rfl) (by decide) rfl ?_ (Below.refl _ w2).drew ?_ [55, 56, 57, 58, 59, 60, 61, 62, 63, 9] (by rfl) ?_
    · intro i W W' vv he hf
      match i with
      | 3 => exact NewP.call hf he
      | 7 => exact BldP.call hf he
      | 8 => exact BoxP.call hf he
      | n + 9 => exact BoxP.call hf he
      | 0 | 1 | 2 | 4 | 5 | 6 => exact hf
    · refine ⟨?_, ?_, ?_, ?_, ?_, ?_, ?_, ?_, ?_, ?_, trivial⟩
      all_goals intro ρ W hJ hc hf hKn
      · refine Draw.Goes.plain rfl ?_
        have h0 : ρ (.tmp 3) = .pointer (some ⟨w.heap.size, 0, none⟩) := hKn.1.2 3 rfl
        refine Draw.Runs.value (w' := W) (v := .pointer (some ⟨w.heap.size, 1, none⟩)) ?_ ⟨hJ, Below.refl _ _, rfl⟩
        simp only [execOp]; go_simp
      · refine Draw.Goes.plain rfl ?_
        have h0 : ρ (.tmp 55) = .pointer (some ⟨w.heap.size, 1, none⟩) := hKn.1.get 0 55 rfl rfl
        have c : W.cell? ⟨w.heap.size, 1, none⟩ = some (.int .u64 e1) := (blk_below HE.out hJ HE.out.lt).cell _ rfl
        refine Draw.Runs.value (w' := W) (v := .int .u64 e1) ?_ ⟨hJ, Below.refl _ _, rfl⟩
        simp only [execOp]; go_simp
      · refine Draw.Goes.plain rfl ?_
        exact Draw.Runs.value (w' := W) (v := ρ (.tmp 7)) rfl ⟨hJ, Below.refl _ _, hKn.1.2 7 rfl⟩
      · refine Draw.Goes.plain rfl ?_
        have h0 : ρ (.tmp 56) = .int .u64 e1 := hKn.1.get 1 56 rfl rfl
        have h1 : ρ (.tmp 57) = .int .i64 ev := hKn.1.get 2 57 rfl rfl
        refine Draw.Runs.enter (f := 41) (args := #[.int .u8 1, .int .u64 e1, .int .i64 ev]) ?_ ((HNB.out W).mono fun e W' ⟨gm, gl, he, hp, hb, j1, j2⟩ => ⟨_, he, hJ.trans (Below.mono hb hJ.size), hb, gm, gl, rfl, hp, Nat.le_trans hJ.size j1, Nat.le_trans hJ.size j2⟩)
        simp only [execOp]; go_simp
      · refine Draw.Goes.plain rfl ?_
        have h0 : ρ (.tmp 4) = .pointer (some ⟨w.heap.size + 1, 0, none⟩) := hKn.1.2 4 rfl
        refine Draw.Runs.value (w' := W) (v := .pointer (some ⟨w.heap.size + 1, 1, none⟩)) ?_ ⟨hJ, Below.refl _ _, rfl⟩
        simp only [execOp]; go_simp
      · refine Draw.Goes.plain rfl ?_
        have h0 : ρ (.tmp 59) = .pointer (some ⟨w.heap.size + 1, 1, none⟩) := hKn.1.get 4 59 rfl rfl
        have c : W.cell? ⟨w.heap.size + 1, 1, none⟩ = some (.int .u64 c1) := (blk_below HC.out hJ HC.out.lt).cell _ rfl
        refine Draw.Runs.value (w' := W) (v := .int .u64 c1) ?_ ⟨hJ, Below.refl _ _, rfl⟩
        simp only [execOp]; go_simp
      · refine Draw.Goes.plain rfl ?_
        have h0 : ρ (.tmp 60) = .int .u64 c1 := hKn.1.get 5 60 rfl rfl
        refine Draw.Runs.value (w' := W) (v := .int .u64 d1) ?_ ⟨hJ, Below.refl _ _, rfl⟩
        have hmc := min_cast c1
        have hmd := min_cast2 c1
        rw [← HD1.out] at hmc hmd
        simp only [execOp]; go_simp
        all_goals first | exact hmc | exact hmd
      · refine Draw.Goes.plain rfl ?_
        have h0 : NewP 1 e1 ev w2.heap.size W (ρ (.tmp 58)) := hKn.1.get 3 58 rfl rfl
        have h1 : ρ (.tmp 61) = .int .u64 d1 := hKn.1.get 6 61 rfl rfl
        obtain ⟨gm, gl, h0, hp, j1, j2⟩ := h0
        refine Draw.Runs.value (w' := W) (v := .agg (dc gm d1)) ?_ ⟨hJ, Below.refl _ _, gm, gl, rfl, hp, j1, j2⟩
        simp only [execOp, dc]; go_simp
      · refine Draw.Goes.plain rfl ?_
        have h0 : BldP 1 e1 ev w2.heap.size d1 W (ρ (.tmp 62)) := hKn.1.get 7 62 rfl rfl
        obtain ⟨gm, gl, h0, hp, j1, j2⟩ := h0
        refine Draw.Runs.value (w' := W.alloc (.cells (dc gm d1) DT)) (v := .pointer (some ⟨W.heap.size, 0, none⟩)) ?_ ⟨hJ.trans (Below.mono (bel_alloc _ _) hJ.size), bel_alloc _ _, W.heap.size, rfl, gm, gl, heap_alloc_new W _, hp.call (bel_alloc _ _), hJ.size, j1, j2⟩
        unfold dc at h0 ⊢
        simp only [execOp]; go_simp
      · refine Draw.Goes.plain rfl ?_
        exact Draw.Runs.value (w' := W) (v := ρ (.tmp 63)) rfl ⟨hJ, Below.refl _ _, hKn.1.get 8 63 rfl rfl⟩
    · intro u5 w3 hJ hf
      obtain ⟨gg9, r9, hb9⟩ : BoxP 1 e1 ev w2.heap.size d1 w3 (u5 9) := hf 9 _ 9 rfl rfl
      simp only [List.foldl_cons, List.foldl_nil, List.setIfInBounds_toArray, List.set_cons_succ, List.set_cons_zero, r9]
      obtain ⟨hm, hl, hx, hp, j1, j2, j3⟩ := hb9
      have HBB := Lib.hid hx
      have HBM := Lib.hid hp
      have HBO := Lib.hid (show w2.heap.size ≤ gg9 ∧ w2.heap.size ≤ hm ∧ w2.heap.size ≤ hl from ⟨j1, j2, j3⟩)
      have HAL := Lib.hid (show gg8 < w2.heap.size ∧ gm < w2.heap.size ∧ gl < w2.heap.size from ⟨HAB.out.lt, HAM.out.a.lt, HAM.out.b.lt⟩)
      have HAB := Lib.hid (blk_below HAB.out hJ HAB.out.lt)
      have HAM := Lib.hid (HAM.out.call hJ)
      have HBW := Lib.hid (show Below w.heap.size w w3 from HBW.out.trans (Below.mono hJ HBW.out.size))
      have HE := Lib.hid (blk_below HE.out hJ HE.out.lt)
      have HC := Lib.hid (blk_below HC.out hJ HC.out.lt)
      have HH := Lib.hid (blk_below HH.out hJ HH.out.lt)
      have HSZ3 := Lib.hid hJ.size
      clear hJ hf hx hp j1 j2 j3
      go_upto_region 6 with fail
      refine Draw.wp_region_frame (fun W => Below w3.heap.size w3 W) (fun W W' => Below W.heap.size W W') (fun i W vv => match i with
          | 0 => vv = .pointer (some ⟨w.heap.size, 2, none⟩)
          | 1 => vv = .int .u64 e2
          | 2 => vv = .int .i64 ev
          | 3 => NewP 0 e2 ev w3.heap.size W vv
          | 4 => vv = .pointer (some ⟨gg8, 0, none⟩)
          | 5 => vv = .pointer (some ⟨gg8, 0, none⟩)
          | 6 => vv = .pointer (some ⟨gg8, 1, none⟩)
          | 7 => vv = .int .u64 d0
          | 8 => BldP 0 e2 ev w3.heap.size d0 W vv
          | 9 => BoxP 0 e2 ev w3.heap.size d0 W vv
          | _ => BoxP 0 e2 ev w3.heap.size d0 W vv) (by kernel_rfl) (by kernel_rfl) (by decide) rfl ?_ (Below.refl _ w3).drew ?_ [64, 65, 66, 67, 68, 69, 70, 71, 72, 73, 10] (by rfl) ?_
      · intro i W W' vv he hf
        match i with
        | 3 => exact NewP.call hf he
        | 8 => exact BldP.call hf he
        | 9 => exact BoxP.call hf he
        | n + 10 => exact BoxP.call hf he
        | 0 | 1 | 2 | 4 | 5 | 6 | 7 => exact hf
      · refine ⟨?_, ?_, ?_, ?_, ?_, ?_, ?_, ?_, ?_, ?_, ?_, trivial⟩
        all_goals intro ρ W hJ hc hf hKn
        · refine Draw.Goes.plain rfl ?_
          have h0 : ρ (.tmp 3) = .pointer (some ⟨w.heap.size, 0, none⟩) := hKn.1.2 3 rfl
          refine Draw.Runs.value (w' := W) (v := .pointer (some ⟨w.heap.size, 2, none⟩)) ?_ ⟨hJ, Below.refl _ _, rfl⟩
          simp only [execOp]; go_simp
        · refine Draw.Goes.plain rfl ?_
          have h0 : ρ (.tmp 64) = .pointer (some ⟨w.heap.size, 2, none⟩) := hKn.1.get 0 64 rfl rfl
          have c : W.cell? ⟨w.heap.size, 2, none⟩ = some (.int .u64 e2) := (blk_below HE.out hJ HE.out.lt).cell _ rfl
          refine Draw.Runs.value (w' := W) (v := .int .u64 e2) ?_ ⟨hJ, Below.refl _ _, rfl⟩
          simp only [execOp]; go_simp
        · refine Draw.Goes.plain rfl ?_
          exact Draw.Runs.value (w' := W) (v := ρ (.tmp 7)) rfl ⟨hJ, Below.refl _ _, hKn.1.2 7 rfl⟩
        · refine Draw.Goes.plain rfl ?_
          have h0 : ρ (.tmp 65) = .int .u64 e2 := hKn.1.get 1 65 rfl rfl
          have h1 : ρ (.tmp 66) = .int .i64 ev := hKn.1.get 2 66 rfl rfl
          refine Draw.Runs.enter (f := 41) (args := #[.int .u8 0, .int .u64 e2, .int .i64 ev]) ?_ ((HNC.out W).mono fun e W' ⟨gm, gl, he, hp, hb, j1, j2⟩ => ⟨_, he, hJ.trans (Below.mono hb hJ.size), hb, gm, gl, rfl, hp, Nat.le_trans hJ.size j1, Nat.le_trans hJ.size j2⟩)
          simp only [execOp]; go_simp
        · refine Draw.Goes.plain rfl ?_
          exact Draw.Runs.value (w' := W) (v := ρ (.tmp 8)) rfl ⟨hJ, Below.refl _ _, hKn.1.2 8 rfl⟩
        · refine Draw.Goes.plain rfl ?_
          have h0 : ρ (.tmp 68) = .pointer (some ⟨gg8, 0, none⟩) := hKn.1.get 4 68 rfl rfl
          refine Draw.Runs.value (w' := W) (v := .pointer (some ⟨gg8, 0, none⟩)) ?_ ⟨hJ, Below.refl _ _, rfl⟩
          simp only [execOp]; go_simp
        · refine Draw.Goes.plain rfl ?_
          have h0 : ρ (.tmp 69) = .pointer (some ⟨gg8, 0, none⟩) := hKn.1.get 5 69 rfl rfl
          refine Draw.Runs.value (w' := W) (v := .pointer (some ⟨gg8, 1, none⟩)) ?_ ⟨hJ, Below.refl _ _, rfl⟩
          simp only [execOp]; go_simp
        · refine Draw.Goes.plain rfl ?_
          have h0 : ρ (.tmp 70) = .pointer (some ⟨gg8, 1, none⟩) := hKn.1.get 6 70 rfl rfl
          have c : W.cell? ⟨gg8, 1, none⟩ = some (.int .u64 d0) := (blk_below HAB.out hJ HAB.out.lt).cell _ rfl
          refine Draw.Runs.value (w' := W) (v := .int .u64 d0) ?_ ⟨hJ, Below.refl _ _, rfl⟩
          simp only [execOp]; go_simp
        · refine Draw.Goes.plain rfl ?_
          have h0 : NewP 0 e2 ev w3.heap.size W (ρ (.tmp 67)) := hKn.1.get 3 67 rfl rfl
          have h1 : ρ (.tmp 71) = .int .u64 d0 := hKn.1.get 7 71 rfl rfl
          obtain ⟨gm, gl, h0, hp, j1, j2⟩ := h0
          refine Draw.Runs.value (w' := W) (v := .agg (dc gm d0)) ?_ ⟨hJ, Below.refl _ _, gm, gl, rfl, hp, j1, j2⟩
          simp only [execOp, dc]; go_simp
        · refine Draw.Goes.plain rfl ?_
          have h0 : BldP 0 e2 ev w3.heap.size d0 W (ρ (.tmp 72)) := hKn.1.get 8 72 rfl rfl
          obtain ⟨gm, gl, h0, hp, j1, j2⟩ := h0
          refine Draw.Runs.value (w' := W.alloc (.cells (dc gm d0) DT)) (v := .pointer (some ⟨W.heap.size, 0, none⟩)) ?_ ⟨hJ.trans (Below.mono (bel_alloc _ _) hJ.size), bel_alloc _ _, W.heap.size, rfl, gm, gl, heap_alloc_new W _, hp.call (bel_alloc _ _), hJ.size, j1, j2⟩
          unfold dc at h0 ⊢
          simp only [execOp]; go_simp
        · refine Draw.Goes.plain rfl ?_
          exact Draw.Runs.value (w' := W) (v := ρ (.tmp 73)) rfl ⟨hJ, Below.refl _ _, hKn.1.get 9 73 rfl rfl⟩
      · intro u6 w4 hJ hf
        obtain ⟨gg10, r10, hb10⟩ : BoxP 0 e2 ev w3.heap.size d0 w4 (u6 10) := hf 10 _ 10 rfl rfl
        simp only [List.foldl_cons, List.foldl_nil, List.setIfInBounds_toArray, List.set_cons_succ, List.set_cons_zero, r10]
        obtain ⟨km, kl, hx, hp, j1, j2, j3⟩ := hb10
        have HCB := Lib.hid hx
        have HCM := Lib.hid hp
        have HCO := Lib.hid (show w3.heap.size ≤ gg10 ∧ w3.heap.size ≤ km ∧ w3.heap.size ≤ kl from ⟨j1, j2, j3⟩)
        have HBL := Lib.hid (show gg9 < w3.heap.size ∧ hm < w3.heap.size ∧ hl < w3.heap.size from ⟨HBB.out.lt, HBM.out.a.lt, HBM.out.b.lt⟩)
        have HTW := Lib.hid (show Two gg8 gm gl gg9 hm hl (M.make 0 e0 ev) (M.make 1 e1 ev) d0 d1 w4 from ⟨HAM.out.call hJ, HBM.out.call hJ, blk_below HAB.out hJ HAB.out.lt, blk_below HBB.out hJ HBB.out.lt, by have := HAL.out; have := HBO.out; omega, by have := HAL.out; have := HBO.out; omega, by have := HAL.out; have := HBO.out; omega⟩)
        have HBW := Lib.hid (show Below w.heap.size w w4 from HBW.out.trans (Below.mono hJ HBW.out.size))
        have HE := Lib.hid (blk_below HE.out hJ HE.out.lt)
        have HC := Lib.hid (blk_below HC.out hJ HC.out.lt)
        have HH := Lib.hid (blk_below HH.out hJ HH.out.lt)
        clear hJ hf hx hp j1 j2 j3 HAB HAM HBB HBM
        have cA : w4.cell? ⟨gg8, 0, none⟩ = some (.pointer (some ⟨gm, 0, none⟩)) := HTW.out.x.cell _ rfl
        have cB : w4.cell? ⟨gg9, 0, none⟩ = some (.pointer (some ⟨hm, 0, none⟩)) := HTW.out.y.cell _ rfl
        have cC : w4.cell? ⟨gg10, 0, none⟩ = some (.pointer (some ⟨km, 0, none⟩)) := HCB.out.cell _ rfl
        have cF : w4.cell? ⟨w.heap.size + 1 + 1, 0, none⟩ = some (.slice p1 n1 k1) := HH.out.cell _ rfl
        obtain ⟨P1, hP1⟩ : ∃ P, P = (n1 + 4) * ev := ⟨_, rfl⟩
        obtain ⟨P2, hP2⟩ : ∃ P, P = (n2 + 4) * ev := ⟨_, rfl⟩
        obtain ⟨N1, hN1⟩ : ∃ N, N = P1 + 8 := ⟨_, rfl⟩
        obtain ⟨N2, hN2⟩ : ∃ N, N = P2 + 8 := ⟨_, rfl⟩
        have HP1 := Lib.hid hP1
        have HP2 := Lib.hid hP2
        have HO1 := Lib.hid hN1
        have HO2 := Lib.hid hN2
        have HPB := Lib.hid (show P1 ≤ 704 ∧ P2 ≤ 704 by
          have e1 := Nat.mul_le_mul (show n1 + 4 ≤ 44 by have := HG.out; omega) HV1.out
          have e2 := Nat.mul_le_mul (show n2 + 4 ≤ 44 by have := HG.out; omega) HV1.out
          omega)
        have hn1 : n1 ≤ 40 := HG.out.2.2.2.1
        have hn2 : n2 ≤ 40 := HG.out.2.2.2.2
        have hv1 : ev ≤ 16 := HV1.out
        have hpn : 0 < e0 ∧ 0 < e1 ∧ e0 < e2 := by have := HG.out; omega
        -- the plain law
        obtain ⟨f1, f2, f3, f4, f5⟩ := first_law (l1 := l1) (n := N1) (c0 := d0) (c1 := d1) hpn.1 hpn.2.1 B0.out B1.out HV0.out HV1.out HW1.out HW2.out (by have := HN1.out; omega) (by rw [hN1, hP1, HN1.out])
        have I0 := zero_in (l1 := l1) (c0 := d0) (c1 := d1) hpn.1 hpn.2.1 B0.out B1.out HV0.out HV1.out HW1.out HW2.out
        have hS : ∀ k, S6 gg8 gm gl gg9 hm hl k → w.heap.size + 1 + 1 < k := by
          intro k hk
          unfold S6 at hk
          have z1 := HAO.out
          have z2 := HBO.out
          have z3 := HSZ.out
          have z4 := HSZ2.out
          omega
        have HSS := Lib.hid hS
        have HT4 := Lib.hid (fun V (q : Fs w4.heap.size (S6 gg8 gm gl gg9 hm hl) w4 V) => show Below w.heap.size w V from HBW.out.trans (q.to HBW.out.size (fun k hk => by have := hS k hk; omega)))
        have HM1 := Lib.hid (meet_any e0 e1 0 ev 0 N1 gg8 gm gl gg9 hm hl (R.zero e0 e1 ev d0 d1 l1) (.slice p1 n1 k1) w4 w4 (Fs.refl _ _ _) HTW.out I0 (by omega) (fun V q => tab_below HTT.out (HT4.out V q)) (fun V q => H1.out.below (HT4.out V q)) f2 f3)
        obtain ⟨rf, hrf⟩ : ∃ rf, rf = R.go 0 N1 (R.zero e0 e1 ev d0 d1 l1) := ⟨_, rfl⟩
        rw [← hrf] at f1 f2 f3 f4 HM1
        obtain ⟨g0, g1, g2, g3, g4, g5⟩ := again_law (l2 := l2) (n := N2) (c0 := d0) f1 f3 f4 f5 B2.out hpn.2.2 HW1.out (by have := HN2.out; omega) (by rw [hN2, hP2, HN2.out])
        have J0 := anew_in (l2 := l2) (c0 := d0) f1 f3 B2.out hpn.2.2 HW1.out
        have hS' : ∀ k, S6 gg10 km kl gg9 hm hl k → w.heap.size + 1 + 1 < k := by
          intro k hk
          unfold S6 at hk
          have z1 := HCO.out
          have z2 := HBO.out
          have z3 := HSZ.out
          have z4 := HSZ2.out
          have z5 := HSZ3.out
          omega
        have HM2 := Lib.hid (fun w5 W (hb : Below w5.heap.size w5 W) (hw : Below w.heap.size w w5) (ht : Two gg10 km kl gg9 hm hl (M.make 0 e2 ev) rf.b d0 rf.cb w5) =>
          have hq : ∀ V, Fs w5.heap.size (S6 gg10 km kl gg9 hm hl) w5 V → Below w.heap.size w V := fun V q => hw.trans (q.to hw.size (fun k hk => by have := hS' k hk; omega))
          meet_any e2 e1 e0 ev N1 N2 gg10 km kl gg9 hm hl (R.anew rf e2 ev d0 l2) (.slice p2 n2 k2) w5 W (Fs.below hb (Nat.le_refl _)) (ht.call hb) J0 (by omega) (fun V q => tab_below HTT.out (hq V q)) (fun V q => H2.out.below (hq V q)) g1 g2)
        obtain ⟨rg, hrg⟩ : ∃ rg, rg = R.go N1 N2 (R.anew rf e2 ev d0 l2) := ⟨_, rfl⟩
        rw [← hrg] at g0 g1 g2 g3 g4 HM2
        have HSS' := Lib.hid hS'
        have HN712 := Lib.hid f5
        have HLB := Lib.hid (fun W (h : (fun W => Two gg10 km kl gg9 hm hl rg.a rg.b rg.ca rg.cb W ∧ Blk W w.heap.size #[.int .u64 e0, .int .u64 e1, .int .u64 e2] 96 ∧ Below w.heap.size w W) W) => mlink_any rg.b hm hl W h.1.q)
        have HLA := Lib.hid (fun W (h : (fun W => Two gg10 km kl gg9 hm hl rg.a rg.b rg.ca rg.cb W ∧ Blk W w.heap.size #[.int .u64 e0, .int .u64 e1, .int .u64 e2] 96 ∧ Below w.heap.size w W) W) => mlink_any rg.a km kl W h.1.p)
        have HEB := Lib.hid (fun W (h : (fun W => Two gg10 km kl gg9 hm hl rg.a rg.b rg.ca rg.cb W ∧ Blk W w.heap.size #[.int .u64 e0, .int .u64 e1, .int .u64 e2] 96 ∧ Below w.heap.size w W) W) => epoch_any rg.b.l hl W h.1.q.b g0.B.wf.l)
        have HEA := Lib.hid (fun W (h : (fun W => Two gg10 km kl gg9 hm hl rg.a rg.b rg.ca rg.cb W ∧ Blk W w.heap.size #[.int .u64 e0, .int .u64 e1, .int .u64 e2] 96 ∧ Below w.heap.size w W) W) => epoch_any rg.a.l kl W h.1.p.b g0.A.wf.l)
        rw [g3] at HEB
        rw [g4] at HEA
        clear hP1 hP2 f1 f2 f3 f4 f5 g0 g1 g2 g3 g4 g5 I0 J0 hS hS' hrf hrg hpn hN1 hN2 hn2
        go_upto_region 9 with fail
        go_cut [11] (fun z wx => z = .int .i64 N1 ∧ w4 = wx)
        case first =>
          have m1 : ((n1 : Int) + 4) * (ev : Int) = (P1 : Int) := by rw [HP1.out]; push_cast; rfl
          have hb1 : P1 ≤ 704 := HPB.out.1
          go_wp2
          go_meet
          exact ⟨congrArg (Value.int .i64) (by rw [HO1.out]; push_cast; rfl), rfl⟩
        case rest =>
        obtain ⟨rfl, rfl⟩ := hcut
        clear hn1
        go_wp2_with fail
        refine HM1.out.mono ?_
        rintro r w5 ⟨rfl, ht5, hf5⟩
        have n6 : ∀ k, w3.heap.size ≤ k → ¬ S6 gg8 gm gl gg9 hm hl k := by
          intro k hk e
          unfold S6 at e
          have z1 := HAL.out
          have z2 := HBL.out
          have z3 := HSZ3.out
          omega
        have n7 : ∀ k, k ≤ w.heap.size + 1 + 1 → ¬ S6 gg8 gm gl gg9 hm hl k := fun k hk e => by have := HSS.out k e; omega
        have HE := Lib.hid (hf5.blk HE.out HE.out.lt (n7 _ (by omega)))
        have HH := Lib.hid (hf5.blk HH.out HH.out.lt (n7 _ (by omega)))
        have HBW := Lib.hid (show Below w.heap.size w w5 from HT4.out w5 hf5)
        have HT5 := Lib.hid (show Two gg10 km kl gg9 hm hl (M.make 0 e2 ev) rf.b d0 rf.cb w5 from ⟨⟨hf5.blk HCM.out.a HCM.out.a.lt (n6 _ HCO.out.2.1), hf5.blk HCM.out.b HCM.out.b.lt (n6 _ HCO.out.2.2), HCM.out.ne⟩, ht5.q, hf5.blk HCB.out HCB.out.lt (n6 _ HCO.out.1), ht5.y, by have := HCO.out; have := HBL.out; omega, by have := HCO.out; have := HBL.out; omega, by have := HCO.out; have := HBL.out; omega⟩)
        clear ht5 hf5 n6 n7 cA cB cC cF HM1 HTW HT4
        have cG : w5.cell? ⟨w.heap.size + 1 + 1, 1, none⟩ = some (.slice p2 n2 k2) := HH.out.cell _ rfl
        have hn2 : n2 ≤ 40 := HG.out.2.2.2.2
        go_upto_region 12 with fail
        go_cut [12] (fun z wx => z = .int .i64 N2 ∧ w5 = wx)
        case first =>
          have m1 : ((n2 : Int) + 4) * (ev : Int) = (P2 : Int) := by rw [HP2.out]; push_cast; rfl
          have hb1 : P2 ≤ 704 := HPB.out.2
          go_wp2
          go_meet
          exact ⟨congrArg (Value.int .i64) (by rw [HO2.out]; push_cast; rfl), rfl⟩
        case rest =>
        obtain ⟨rfl, rfl⟩ := hcut
        clear hn2 cG hv1
        have hn712 : N1 ≤ 712 := HN712.out
        go_upto_region 13 with fail
        refine Draw.wp_region_prefix 7 (fun W => Below w5.heap.size w5 W) (fun W W' => Below W.heap.size W W') (fun i W vv => match i with
            | 0 => vv = .pointer (some ⟨gg10, 0, none⟩)
            | 1 => vv = .pointer (some ⟨gg9, 0, none⟩)
            | 2 => vv = .int .i64 N1
            | 3 => vv = .int .u64 N1
            | 4 => vv = .int .i64 N2
            | 5 => vv = .pointer (some ⟨w.heap.size + 1 + 1, 1, none⟩)
            | _ => vv = .slice p2 n2 k2) (by kernel_rfl) (by kernel_rfl) (by decide) rfl (by decide) (by decide) (by decide) ?_ (Below.refl _ w5).drew ?_ [114, 115, 116, 117, 118, 119, 120] (by rfl) 27 (by rfl) ?_
        · intro i W W' vv he hf
          exact hf
        · refine ⟨?_, ?_, ?_, ?_, ?_, ?_, ?_, trivial⟩
          all_goals intro ρ W hJ hc hf hKn
          · refine Draw.Goes.plain rfl ?_
            exact Draw.Runs.value (w' := W) (v := ρ (.tmp 10)) rfl ⟨hJ, Below.refl _ _, hKn.1.2 10 rfl⟩
          · refine Draw.Goes.plain rfl ?_
            exact Draw.Runs.value (w' := W) (v := ρ (.tmp 9)) rfl ⟨hJ, Below.refl _ _, hKn.1.2 9 rfl⟩
          · refine Draw.Goes.plain rfl ?_
            exact Draw.Runs.value (w' := W) (v := ρ (.tmp 11)) rfl ⟨hJ, Below.refl _ _, hKn.1.2 11 rfl⟩
          · refine Draw.Goes.plain rfl ?_
            have h0 : ρ (.tmp 116) = .int .i64 N1 := hKn.1.get 2 116 rfl rfl
            have hwr : IntKind.u64.wrap (N1 : Int) = (N1 : Int) := IntWalk.u64_in _ (by omega)
            refine Draw.Runs.value (w' := W) (v := .int .u64 N1) ?_ ⟨hJ, Below.refl _ _, rfl⟩
            simp only [execOp]; go_simp
          · refine Draw.Goes.plain rfl ?_
            exact Draw.Runs.value (w' := W) (v := ρ (.tmp 12)) rfl ⟨hJ, Below.refl _ _, hKn.1.2 12 rfl⟩
          · refine Draw.Goes.plain rfl ?_
            have h0 : ρ (.tmp 5) = .pointer (some ⟨w.heap.size + 1 + 1, 0, none⟩) := hKn.1.2 5 rfl
            refine Draw.Runs.value (w' := W) (v := .pointer (some ⟨w.heap.size + 1 + 1, 1, none⟩)) ?_ ⟨hJ, Below.refl _ _, rfl⟩
            simp only [execOp]; go_simp
          · refine Draw.Goes.plain rfl ?_
            have h0 : ρ (.tmp 119) = .pointer (some ⟨w.heap.size + 1 + 1, 1, none⟩) := hKn.1.get 5 119 rfl rfl
            have c : W.cell? ⟨w.heap.size + 1 + 1, 1, none⟩ = some (.slice p2 n2 k2) := (blk_below HH.out hJ HH.out.lt).cell _ rfl
            refine Draw.Runs.value (w' := W) (v := .slice p2 n2 k2) ?_ ⟨hJ, Below.refl _ _, rfl⟩
            simp only [execOp]; go_simp
        · intro u W hJ hf
          have r114 : u 114 = .pointer (some ⟨gg10, 0, none⟩) := hf 0 _ 114 (by decide) rfl rfl
          have r115 : u 115 = .pointer (some ⟨gg9, 0, none⟩) := hf 1 _ 115 (by decide) rfl rfl
          have r117 : u 117 = .int .u64 N1 := hf 3 _ 117 (by decide) rfl rfl
          have r118 : u 118 = .int .i64 N2 := hf 4 _ 118 (by decide) rfl rfl
          have r120 : u 120 = .slice p2 n2 k2 := hf 6 _ 120 (by decide) rfl rfl
          simp only [List.foldl_cons, List.foldl_nil, List.setIfInBounds_toArray, List.set_cons_succ, List.set_cons_zero, r114, r115, r117, r118, r120]
          have hJ1 := hJ
          clear hJ hf
          refine Draw.wpAny_one (i := 7) (by kernel_rfl) rfl rfl ?_
          refine runs_at (some 121) rfl (R := fun V z => z = .bool true ∧ Two gg10 km kl gg9 hm hl rg.a rg.b rg.ca rg.cb V ∧ Fs w5.heap.size (S6 gg10 km kl gg9 hm hl) w5 V) (Draw.Runs.enter (f := 53) (args := #[.pointer (some ⟨gg10, 0, none⟩), .pointer (some ⟨gg9, 0, none⟩), .int .u64 N1, .int .i64 N2, .slice p2 n2 k2]) (by simp only [execOp]; go_simp) ((HM2.out w5 W hJ1 HBW.out HT5.out).mono fun e W' ⟨he, hd, hf⟩ => ⟨_, he, rfl, hd, hf⟩)) ?_
          rintro w6 z ⟨rfl, hd6, hf6⟩
          refine Draw.wpAny_one (i := 8) (by kernel_rfl) rfl rfl ?_
          refine wp_value_at (some 122) rfl (v := .bool true) (w' := w6) (by simp only [execOp]; go_simp) ?_
          have HJ6 := Lib.hid (show (fun W => Two gg10 km kl gg9 hm hl rg.a rg.b rg.ca rg.cb W ∧ Blk W w.heap.size #[.int .u64 e0, .int .u64 e1, .int .u64 e2] 96 ∧ Below w.heap.size w W) w6 from ⟨hd6, hf6.blk HE.out HE.out.lt (fun e => by have := HSS'.out _ e; omega), HBW.out.trans (hf6.to HBW.out.size (fun k hk => by have := HSS'.out k hk; omega))⟩)
          clear hJ1 hd6 hf6
          simp only [Act.put, List.setIfInBounds_toArray, List.set_cons_succ, List.set_cons_zero]
          refine Draw.wpAny_last 9 (fun W => Two gg10 km kl gg9 hm hl rg.a rg.b rg.ca rg.cb W ∧ Blk W w.heap.size #[.int .u64 e0, .int .u64 e1, .int .u64 e2] 96 ∧ Below w.heap.size w W) (fun W W' => Below W.heap.size W W') (fun i W vv => match i with
              | 9 => vv = .pointer (some ⟨gg9, 0, none⟩)
              | 10 => vv = .pointer (some ⟨gg9, 0, none⟩)
              | 11 => vv = .pointer (some ⟨gg9, 0, none⟩)
              | 12 => vv = .pointer (some ⟨hm, 0, none⟩)
              | 13 => vv = .pointer (some ⟨hl, 0, none⟩)
              | 14 => vv = .int .u64 e2
              | 15 => vv = .pointer (some ⟨w.heap.size, 2, none⟩)
              | 16 => vv = .int .u64 e2
              | 17 => vv = .bool true
              | 18 => vv = .bool true
              | 19 => vv = .bool true
              | 20 => vv = .pointer (some ⟨gg10, 0, none⟩)
              | 21 => vv = .pointer (some ⟨gg10, 0, none⟩)
              | 22 => vv = .pointer (some ⟨gg10, 0, none⟩)
              | 23 => vv = .pointer (some ⟨km, 0, none⟩)
              | 24 => vv = .pointer (some ⟨kl, 0, none⟩)
              | 25 => vv = .int .u64 e1
              | 26 => vv = .pointer (some ⟨w.heap.size, 1, none⟩)
              | 27 => vv = .int .u64 e1
              | 28 => vv = .bool true
              | 29 => vv = .bool true
              | 30 => vv = .bool true
              | 31 => vv = .bool true
              | 32 => vv = .bool true
              | _ => vv = .bool true) (by kernel_rfl) (by decide) rfl (by decide) ?_ HJ6.out [123, 124, 125, 126, 127, 128, 129, 130, 131, 132, 133, 134, 135, 136, 137, 138, 139, 140, 141, 142, 143, 144, 145, 146, 6] (by rfl) ?_ 25 (by rfl) ?_
          · intro i W W' vv he hf
            exact hf
          · refine ⟨?_, ?_, ?_, ?_, ?_, ?_, ?_, ?_, ?_, ?_, ?_, ?_, ?_, ?_, ?_, ?_, ?_, ?_, ?_, ?_, ?_, ?_, ?_, ?_, ?_, trivial⟩
            all_goals intro ρ W hJ hc hf hKn
            · refine Draw.Goes.yes 8 true 122 rfl rfl (hKn.2 122 rfl) ?_
              exact Draw.Runs.value (w' := W) (v := ρ (.tmp 9)) rfl ⟨hJ, Below.refl _ _, hKn.2 9 rfl⟩
            · refine Draw.Goes.yes 8 true 122 rfl rfl (hKn.2 122 rfl) ?_
              have h0 : ρ (.tmp 123) = .pointer (some ⟨gg9, 0, none⟩) := hKn.get 9 123 rfl rfl rfl
              refine Draw.Runs.value (w' := W) (v := .pointer (some ⟨gg9, 0, none⟩)) ?_ ⟨hJ, Below.refl _ _, rfl⟩
              simp only [execOp]; go_simp
            · refine Draw.Goes.yes 8 true 122 rfl rfl (hKn.2 122 rfl) ?_
              have h0 : ρ (.tmp 124) = .pointer (some ⟨gg9, 0, none⟩) := hKn.get 10 124 rfl rfl rfl
              refine Draw.Runs.value (w' := W) (v := .pointer (some ⟨gg9, 0, none⟩)) ?_ ⟨hJ, Below.refl _ _, rfl⟩
              simp only [execOp]; go_simp
            · refine Draw.Goes.yes 8 true 122 rfl rfl (hKn.2 122 rfl) ?_
              have h0 : ρ (.tmp 125) = .pointer (some ⟨gg9, 0, none⟩) := hKn.get 11 125 rfl rfl rfl
              have c : W.cell? ⟨gg9, 0, none⟩ = some (.pointer (some ⟨hm, 0, none⟩)) := hJ.1.y.cell _ rfl
              refine Draw.Runs.value (w' := W) (v := .pointer (some ⟨hm, 0, none⟩)) ?_ ⟨hJ, Below.refl _ _, rfl⟩
              simp only [execOp]; go_simp
            · refine Draw.Goes.yes 8 true 122 rfl rfl (hKn.2 122 rfl) ?_
              have h0 : ρ (.tmp 126) = .pointer (some ⟨hm, 0, none⟩) := hKn.get 12 126 rfl rfl rfl
              refine Draw.Runs.enter (f := 44) (args := #[.pointer (some ⟨hm, 0, none⟩)]) ?_ ((HLB.out W hJ).mono fun e W' ⟨he, hb⟩ => ⟨_, he, by subst hb; exact hJ, by subst hb; exact Below.refl _ _, rfl⟩)
              simp only [execOp]; go_simp
            · refine Draw.Goes.yes 8 true 122 rfl rfl (hKn.2 122 rfl) ?_
              have h0 : ρ (.tmp 127) = .pointer (some ⟨hl, 0, none⟩) := hKn.get 13 127 rfl rfl rfl
              refine Draw.Runs.enter (f := 30) (args := #[.pointer (some ⟨hl, 0, none⟩)]) ?_ ((HEB.out W hJ).mono fun e W' ⟨he, hb⟩ => ⟨_, he, by subst hb; exact hJ, by subst hb; exact Below.refl _ _, rfl⟩)
              simp only [execOp]; go_simp
            · refine Draw.Goes.yes 8 true 122 rfl rfl (hKn.2 122 rfl) ?_
              have h0 : ρ (.tmp 3) = .pointer (some ⟨w.heap.size, 0, none⟩) := hKn.2 3 rfl
              refine Draw.Runs.value (w' := W) (v := .pointer (some ⟨w.heap.size, 2, none⟩)) ?_ ⟨hJ, Below.refl _ _, rfl⟩
              simp only [execOp]; go_simp
            · refine Draw.Goes.yes 8 true 122 rfl rfl (hKn.2 122 rfl) ?_
              have h0 : ρ (.tmp 129) = .pointer (some ⟨w.heap.size, 2, none⟩) := hKn.get 15 129 rfl rfl rfl
              have c : W.cell? ⟨w.heap.size, 2, none⟩ = some (.int .u64 e2) := hJ.2.1.cell _ rfl
              refine Draw.Runs.value (w' := W) (v := .int .u64 e2) ?_ ⟨hJ, Below.refl _ _, rfl⟩
              simp only [execOp]; go_simp
            · refine Draw.Goes.yes 8 true 122 rfl rfl (hKn.2 122 rfl) ?_
              have h0 : ρ (.tmp 128) = .int .u64 e2 := hKn.get 14 128 rfl rfl rfl
              have h1 : ρ (.tmp 130) = .int .u64 e2 := hKn.get 16 130 rfl rfl rfl
              refine Draw.Runs.value (w' := W) (v := .bool true) ?_ ⟨hJ, Below.refl _ _, rfl⟩
              simp only [execOp]; go_simp
            · refine Draw.Goes.plain rfl ?_
              have h0 : ρ (.tmp 122) = .bool true := hKn.2 122 rfl
              have h1 : ρ (.tmp 131) = .bool true := hKn.get 17 131 rfl rfl rfl
              refine Draw.Runs.value (w' := W) (v := .bool true) ?_ ⟨hJ, Below.refl _ _, rfl⟩
              simp only [execOp]; go_simp
            · refine Draw.Goes.plain rfl ?_
              exact Draw.Runs.value (w' := W) (v := ρ (.tmp 132)) rfl ⟨hJ, Below.refl _ _, hKn.get 18 132 rfl rfl rfl⟩
            · refine Draw.Goes.yes 19 true 133 rfl rfl (hKn.get 19 133 rfl rfl rfl) ?_
              exact Draw.Runs.value (w' := W) (v := ρ (.tmp 10)) rfl ⟨hJ, Below.refl _ _, hKn.2 10 rfl⟩
            · refine Draw.Goes.yes 19 true 133 rfl rfl (hKn.get 19 133 rfl rfl rfl) ?_
              have h0 : ρ (.tmp 134) = .pointer (some ⟨gg10, 0, none⟩) := hKn.get 20 134 rfl rfl rfl
              refine Draw.Runs.value (w' := W) (v := .pointer (some ⟨gg10, 0, none⟩)) ?_ ⟨hJ, Below.refl _ _, rfl⟩
              simp only [execOp]; go_simp
            · refine Draw.Goes.yes 19 true 133 rfl rfl (hKn.get 19 133 rfl rfl rfl) ?_
              have h0 : ρ (.tmp 135) = .pointer (some ⟨gg10, 0, none⟩) := hKn.get 21 135 rfl rfl rfl
              refine Draw.Runs.value (w' := W) (v := .pointer (some ⟨gg10, 0, none⟩)) ?_ ⟨hJ, Below.refl _ _, rfl⟩
              simp only [execOp]; go_simp
            · refine Draw.Goes.yes 19 true 133 rfl rfl (hKn.get 19 133 rfl rfl rfl) ?_
              have h0 : ρ (.tmp 136) = .pointer (some ⟨gg10, 0, none⟩) := hKn.get 22 136 rfl rfl rfl
              have c : W.cell? ⟨gg10, 0, none⟩ = some (.pointer (some ⟨km, 0, none⟩)) := hJ.1.x.cell _ rfl
              refine Draw.Runs.value (w' := W) (v := .pointer (some ⟨km, 0, none⟩)) ?_ ⟨hJ, Below.refl _ _, rfl⟩
              simp only [execOp]; go_simp
            · refine Draw.Goes.yes 19 true 133 rfl rfl (hKn.get 19 133 rfl rfl rfl) ?_
              have h0 : ρ (.tmp 137) = .pointer (some ⟨km, 0, none⟩) := hKn.get 23 137 rfl rfl rfl
              refine Draw.Runs.enter (f := 44) (args := #[.pointer (some ⟨km, 0, none⟩)]) ?_ ((HLA.out W hJ).mono fun e W' ⟨he, hb⟩ => ⟨_, he, by subst hb; exact hJ, by subst hb; exact Below.refl _ _, rfl⟩)
              simp only [execOp]; go_simp
            · refine Draw.Goes.yes 19 true 133 rfl rfl (hKn.get 19 133 rfl rfl rfl) ?_
              have h0 : ρ (.tmp 138) = .pointer (some ⟨kl, 0, none⟩) := hKn.get 24 138 rfl rfl rfl
              refine Draw.Runs.enter (f := 30) (args := #[.pointer (some ⟨kl, 0, none⟩)]) ?_ ((HEA.out W hJ).mono fun e W' ⟨he, hb⟩ => ⟨_, he, by subst hb; exact hJ, by subst hb; exact Below.refl _ _, rfl⟩)
              simp only [execOp]; go_simp
            · refine Draw.Goes.yes 19 true 133 rfl rfl (hKn.get 19 133 rfl rfl rfl) ?_
              have h0 : ρ (.tmp 3) = .pointer (some ⟨w.heap.size, 0, none⟩) := hKn.2 3 rfl
              refine Draw.Runs.value (w' := W) (v := .pointer (some ⟨w.heap.size, 1, none⟩)) ?_ ⟨hJ, Below.refl _ _, rfl⟩
              simp only [execOp]; go_simp
            · refine Draw.Goes.yes 19 true 133 rfl rfl (hKn.get 19 133 rfl rfl rfl) ?_
              have h0 : ρ (.tmp 140) = .pointer (some ⟨w.heap.size, 1, none⟩) := hKn.get 26 140 rfl rfl rfl
              have c : W.cell? ⟨w.heap.size, 1, none⟩ = some (.int .u64 e1) := hJ.2.1.cell _ rfl
              refine Draw.Runs.value (w' := W) (v := .int .u64 e1) ?_ ⟨hJ, Below.refl _ _, rfl⟩
              simp only [execOp]; go_simp
            · refine Draw.Goes.yes 19 true 133 rfl rfl (hKn.get 19 133 rfl rfl rfl) ?_
              have h0 : ρ (.tmp 139) = .int .u64 e1 := hKn.get 25 139 rfl rfl rfl
              have h1 : ρ (.tmp 141) = .int .u64 e1 := hKn.get 27 141 rfl rfl rfl
              refine Draw.Runs.value (w' := W) (v := .bool true) ?_ ⟨hJ, Below.refl _ _, rfl⟩
              simp only [execOp]; go_simp
            · refine Draw.Goes.plain rfl ?_
              have h0 : ρ (.tmp 133) = .bool true := hKn.get 19 133 rfl rfl rfl
              have h1 : ρ (.tmp 142) = .bool true := hKn.get 28 142 rfl rfl rfl
              refine Draw.Runs.value (w' := W) (v := .bool true) ?_ ⟨hJ, Below.refl _ _, rfl⟩
              simp only [execOp]; go_simp
            · refine Draw.Goes.plain rfl ?_
              exact Draw.Runs.value (w' := W) (v := ρ (.tmp 143)) rfl ⟨hJ, Below.refl _ _, hKn.get 29 143 rfl rfl rfl⟩
            · refine Draw.Goes.yes 30 true 144 rfl rfl (hKn.get 30 144 rfl rfl rfl) ?_
              refine Draw.Runs.enter (f := 43) (args := #[]) ?_ ((HAW.out W).mono fun e W' ⟨he, hb⟩ => ⟨_, he, ⟨hJ.1.call hb, (hb.block _ hJ.2.1.lt).trans hJ.2.1, hJ.2.2.trans (Below.mono hb hJ.2.2.size)⟩, hb, rfl⟩)
              simp only [execOp]; go_simp
            · refine Draw.Goes.plain rfl ?_
              have h0 : ρ (.tmp 144) = .bool true := hKn.get 30 144 rfl rfl rfl
              have h1 : ρ (.tmp 145) = .bool true := hKn.get 31 145 rfl rfl rfl
              refine Draw.Runs.value (w' := W) (v := .bool true) ?_ ⟨hJ, Below.refl _ _, rfl⟩
              simp only [execOp]; go_simp
            · refine Draw.Goes.plain rfl ?_
              exact Draw.Runs.value (w' := W) (v := ρ (.tmp 146)) rfl ⟨hJ, Below.refl _ _, hKn.get 32 146 rfl rfl rfl⟩
          · intro u2 W3 hJ hf
            have r6 : u2 6 = .bool true := hf 33 _ 6 (by decide) rfl rfl
            simp only [List.foldl_cons, List.foldl_nil, List.setIfInBounds_toArray, List.set_cons_succ, List.set_cons_zero, r6]
            have HF := Lib.hid hJ.2.2
            clear hJ hf
            go_wp2
            go_ret
            exact ⟨rfl, HF.out⟩
end Go.Proofs.YtdgbililgkhjfaaDoor.Rs
namespace Go.Proofs.YtdgbililgkhjfaaDoor.Rs
open Go.RowKit Go.Proofs.YtdgbililgkhjfaaDoor.Crc Go.Proofs.YtdgbililgkhjfaaDoor.Codec Go.Proofs.YtdgbililgkhjfaaDoor.Pk Go.Proofs.YtdgbililgkhjfaaDoor.CrcWalk Go.Proofs.YtdgbililgkhjfaaDoor.Frame
set_option linter.unusedVariables false
set_option linter.unusedSimpArgs false
section
variable {H : Type} {enc : TypeId × Value → H} {W : World} {base : Nat} {held : Bool} {n : Nat}
/-- A slice of flags that came in. -/
theorem open_bls {cs : List Value} {x : DataW H × List MemPlace} (hf : DataW.trod enc Tryd.prog W base (fun _ => true) held n 98 cs = some x) : ∃ v ls, cs = [v] ∧ Bls W v ls := by
  rcases Deep.open_bools Tryd.underlying98 Tryd.underlying4 (by kernel_rfl) hf with ⟨rfl, _⟩ | ⟨a, len, cap, B, rfl, _, hl, hm, _, hc⟩
  · exact ⟨_, [], rfl, none, 0, rfl, Nat.le_refl _, fun i hi => absurd hi (Nat.not_lt_zero _)⟩
  · refine ⟨_, (List.range len).map B, rfl, some a, cap, by simp, by simpa using hl, fun i hi => ?_⟩
    have hi' : i < len := by simpa using hi
    have h00 := hc 0 (by omega)
    have ha : a = ⟨a.block, a.off, none⟩ := add_spot (World.cell?_spot h00)
    have hlt : a.block < W.heap.size := by
      have := World.block_lt_of_cell? W _ h00
      rw [ha, add_at] at this
      exact this
    refine ⟨a.block, a.off, by rw [← ha], hlt, ?_⟩
    have := hc i (by omega)
    rw [ha, add_at] at this
    simpa using this
set_option maxRecDepth 100000 in
theorem open_three {r0 : Reach} {b0 : Nat} {v : Value} {d : DataW H} {p : List MemPlace} (hv : Value.okWide Tryd.prog W r0 b0 96 v) (h : DataW.Trod enc Tryd.prog W base (fun _ => true) held 96 v d p) :
    ∃ a b c : Nat, v = .agg #[.int .u64 a, .int .u64 b, .int .u64 c] ∧ a < 18446744073709551616 ∧ b < 18446744073709551616 ∧ c < 18446744073709551616 := by
  simp only [Value.okWide, Tryd.underlying96] at hv
  obtain ⟨cs, rfl, hsz, _⟩ := hv
  rw [show Tryd.prog.cellsOf 96 = 3 by kernel_rfl] at hsz
  obtain ⟨fuel, hf⟩ := h
  obtain ⟨xs, m, _, _, _, hlen, hg⟩ := DataW.trod_array Tryd.underlying96 hf
  rw [kU64] at hg
  obtain ⟨l⟩ := cs
  match l, hsz, xs, hlen with
  | [c, d, e], _, [y0, y1, y2], _ =>
    obtain ⟨a, rfl, ha⟩ := cell_u64 (show DataW.trod enc Tryd.prog W base (fun _ => true) held m 22 [c] = some y0 from hg 0 (by decide))
    obtain ⟨b, rfl, hb⟩ := cell_u64 (show DataW.trod enc Tryd.prog W base (fun _ => true) held m 22 [d] = some y1 from hg 1 (by decide))
    obtain ⟨q, rfl, hq⟩ := cell_u64 (show DataW.trod enc Tryd.prog W base (fun _ => true) held m 22 [e] = some y2 from hg 2 (by decide))
    exact ⟨a, b, q, rfl, ha, hb, hq⟩
set_option maxRecDepth 100000 in
theorem open_twou {r0 : Reach} {b0 : Nat} {v : Value} {d : DataW H} {p : List MemPlace} (hv : Value.okWide Tryd.prog W r0 b0 97 v) (h : DataW.Trod enc Tryd.prog W base (fun _ => true) held 97 v d p) :
    ∃ a b : Nat, v = .agg #[.int .u64 a, .int .u64 b] ∧ a < 18446744073709551616 ∧ b < 18446744073709551616 := by
  simp only [Value.okWide, Tryd.underlying97] at hv
  obtain ⟨cs, rfl, hsz, _⟩ := hv
  rw [show Tryd.prog.cellsOf 97 = 2 by kernel_rfl] at hsz
  obtain ⟨fuel, hf⟩ := h
  obtain ⟨xs, m, _, _, _, hlen, hg⟩ := DataW.trod_array Tryd.underlying97 hf
  rw [kU64] at hg
  obtain ⟨l⟩ := cs
  match l, hsz, xs, hlen with
  | [c, d], _, [y0, y1], _ =>
    obtain ⟨a, rfl, ha⟩ := cell_u64 (show DataW.trod enc Tryd.prog W base (fun _ => true) held m 22 [c] = some y0 from hg 0 (by decide))
    obtain ⟨b, rfl, hb⟩ := cell_u64 (show DataW.trod enc Tryd.prog W base (fun _ => true) held m 22 [d] = some y1 from hg 1 (by decide))
    exact ⟨a, b, rfl, ha, hb⟩
set_option maxRecDepth 100000 in
theorem open_losses {r0 : Reach} {b0 : Nat} {v : Value} {d : DataW H} {p : List MemPlace} (hv : Value.okWide Tryd.prog W r0 b0 100 v) (h : DataW.Trod enc Tryd.prog W base (fun _ => true) held 100 v d p) :
    ∃ (v1 v2 : Value) (y : Nat) (l1 l2 : List Bool), v = .agg #[v1, v2, .int .u8 y] ∧ y < 256 ∧ Bls W v1 l1 ∧ Bls W v2 l2 := by
  simp only [Value.okWide, Tryd.underlying100] at hv
  obtain ⟨cs, rfl, hsz, _⟩ := hv
  rw [show Tryd.prog.cellsOf 100 = 3 by kernel_rfl] at hsz
  obtain ⟨fuel, hf⟩ := h
  obtain ⟨xs, m, _, _, _, hlen, hg⟩ := DataW.trod_struct Tryd.underlying100 hf
  have kB : Tryd.prog.cellsOf 98 = 1 := by kernel_rfl
  obtain ⟨l⟩ := cs
  match l, hsz, xs, hlen with
  | [c, d, e], _, [y0, y1, y2], _ =>
    have g0 : DataW.trod enc Tryd.prog W base (fun _ => true) held m 98 ((([c, d, e] : List Value).drop 0).take (Tryd.prog.cellsOf 98)) = some y0 := hg 0 _ rfl
    have g1 : DataW.trod enc Tryd.prog W base (fun _ => true) held m 98 ((([c, d, e] : List Value).drop 1).take (Tryd.prog.cellsOf 98)) = some y1 := hg 1 _ rfl
    have g2 : DataW.trod enc Tryd.prog W base (fun _ => true) held m 5 ((([c, d, e] : List Value).drop 2).take (Tryd.prog.cellsOf 5)) = some y2 := hg 2 _ rfl
    rw [kB] at g0 g1
    rw [kU8] at g2
    obtain ⟨v1, l1, e1, k1⟩ := open_bls g0
    obtain ⟨v2, l2, e2, k2⟩ := open_bls g1
    obtain ⟨y, rfl, hy⟩ := cell_u8 (show DataW.trod enc Tryd.prog W base (fun _ => true) held m 5 [e] = some y2 from g2)
    obtain rfl : c = v1 := by simpa using e1
    obtain rfl : d = v2 := by simpa using e2
    exact ⟨c, d, y, l1, l2, rfl, hy, k1, k2⟩
end
end Go.Proofs.YtdgbililgkhjfaaDoor.Rs
