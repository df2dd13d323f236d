/- A machine that meets the other one: plain words. No conditions. What the program's functions of a machine answer, but Out: walked. Conditions: the machine's blocks; the numbers are what their types bear; the lists lie in memory; the table. The program's Out: walked. Conditions: the machine's blocks; the numbers are what their types bear. Acts of the laws of the layer resume in memory, and as an argument; 'few': walked. Condition: the acts lie in memory. The laws' 'told' and 'awake' of the layer resume: walked. Condition: the table. The law ResumeKnows: walked. Conditions: the acts lie in memory; the table. Machines that are none; two machines; the law ResumeKnown: walked. Condition: the table. The law ResumeKnown: walked. Condition: the table. -/
import Derived.Test.YtdgbililgkhjfaaDoorLkC
import Derived.Test.YtdgbililgkhjfaaDoorLkD
import Derived.Deep.AppendLies
import Derived.Test.YtdgbililgkhjfaaDoorLkF
import Derived.Test.YtdgbililgkhjfaaDoorPkN
namespace Go.Proofs.YtdgbililgkhjfaaDoor.Rs
open Go.RowKit Go.Proofs.YtdgbililgkhjfaaDoor.Crc Go.Proofs.YtdgbililgkhjfaaDoor.Codec Go.Proofs.YtdgbililgkhjfaaDoor.Pk Go.Proofs.YtdgbililgkhjfaaDoor.Lk
set_option linter.unusedVariables false
/-- A machine. -/
structure M where
  l : L
  st : Nat
  goal : Nat
  owes : Bool
/-- Its cells, its link lying at block g. -/
def mc (m : M) (g : Nat) : Array Value := #[.pointer (some ⟨g, 0, none⟩), .int .i64 m.st, .int .u64 m.goal, .bool m.owes]
def M.make (p e v : Nat) : M := ⟨L.make p e v, 1, 0, false⟩
def M.st1 (m : M) (l' : L) : Nat := if l'.epoch = m.l.epoch then m.st else 1
def M.met1 (m : M) (l' : L) : Bool := decide (m.st1 l' = 1) && l'.met
/-- A packet was taken: what it is then; the link is l'. -/
def M.took (m : M) (k : K) (l' : L) : M := ⟨l', if m.met1 l' = true then 2 else m.st1 l', if m.met1 l' = true then l'.count else m.goal, m.owes || decide (k.kind = 1)⟩
/-- What 'On' answers, and what the machine is then. -/
def M.on (m : M) (k : K) : M × Int := if (m.l.acc k).2 = 0 then (m.took k (m.l.acc k).1, 0) else (m, (m.l.acc k).2)
def M.look (m : M) (c : Nat) : M := ⟨m.l, if m.st = 2 ∧ m.goal ≤ c then 3 else m.st, m.goal, m.owes⟩
/-- A packet that is told. -/
def told (l : L) (kd : Int) (c own : Nat) : K := { l.hdr kd c with own := max own c }
/-- What 'Out' tells, and what the machine is then. -/
def M.says (m : M) (now : Nat) : Bool := decide (m.st = 1) && m.l.due now
def M.out (m : M) (now c own : Nat) : List K := (if m.owes then [told m.l 2 c own] else []) ++ (if m.says now then [told m.l 1 c own] else [])
def M.outs (m : M) (now : Nat) : M := ⟨if m.says now then m.l.sent now else m.l, m.st, m.goal, false⟩
structure M.wf (m : M) : Prop where
  l : m.l.wf
  st : 1 ≤ m.st ∧ m.st ≤ 3
  goal : m.goal < 18446744073709551616
theorem M.took_wf {m : M} {k : K} {l' : L} (h : m.wf) (h' : l'.wf) : (m.took k l').wf := by
  have h1 := h.st
  have h2 : 1 ≤ m.st1 l' ∧ m.st1 l' ≤ 3 := by
    unfold M.st1
    split <;> omega
  refine ⟨h', ?_, ?_⟩
  · show 1 ≤ (if m.met1 l' = true then 2 else m.st1 l') ∧ (if m.met1 l' = true then 2 else m.st1 l') ≤ 3
    split <;> omega
  · show (if m.met1 l' = true then l'.count else m.goal) < _
    split
    · exact h'.count
    · exact h.goal
theorem M.on_wf {m : M} {k : K} (h : m.wf) (hk : k.wf) : (m.on k).1.wf := by
  unfold M.on
  split
  · exact M.took_wf h (L.acc_wf h.l hk)
  · exact h
theorem M.look_wf {m : M} {c : Nat} (h : m.wf) : (m.look c).wf := by
  have h1 := h.st
  refine ⟨h.l, ?_, h.goal⟩
  show 1 ≤ (if m.st = 2 ∧ m.goal ≤ c then 3 else m.st) ∧ (if m.st = 2 ∧ m.goal ≤ c then 3 else m.st) ≤ 3
  split <;> omega
theorem M.outs_wf {m : M} {now : Nat} (h : m.wf) (hn : now < 18446744073709551616) : (m.outs now).wf := by
  refine ⟨?_, h.st, h.goal⟩
  show (if m.says now then m.l.sent now else m.l).wf
  split
  · exact L.sent_wf h.l hn
  · exact h.l
theorem M.make_wf {p e v : Nat} (h1 : p < 256) (h2 : e < 18446744073709551616) (h3 : 0 < v) (h4 : v ≤ 16) : (M.make p e v).wf :=
  ⟨L.make_wf h1 h2 h3 h4, ⟨Nat.le_refl 1, (by decide : 1 ≤ 3)⟩, (by decide : 0 < 18446744073709551616)⟩
end Go.Proofs.YtdgbililgkhjfaaDoor.Rs
namespace Go.Proofs.YtdgbililgkhjfaaDoor.Rs
open Go.RowKit Go.Proofs.YtdgbililgkhjfaaDoor.Crc Go.Proofs.YtdgbililgkhjfaaDoor.Codec Go.Proofs.YtdgbililgkhjfaaDoor.Pk Go.Proofs.YtdgbililgkhjfaaDoor.CrcWalk Go.Proofs.YtdgbililgkhjfaaDoor.Frame Go.Proofs.YtdgbililgkhjfaaDoor.Lk
set_option linter.unusedVariables false
set_option linter.unusedSimpArgs false
abbrev MT := 95
abbrev PT := 26
theorem wp_value_at {P : Program} {Q : Exit → Act → World → Prop} {o : Oper} {a : Act} {w w' : World} {v : Value} {K : Act → World → Prop} (d : Option Tmp) (hd : o.dst = d) (h : (execOp a.eval o).run P w = .ok (.value v) w') (hK : K (a.put d v) w') : o.wp P a w K Q := by
  subst hd
  exact Draw.wp_value h hK
theorem runs_at {P : Program} {Q : Exit → Act → World → Prop} {o : Oper} {a : Act} {w : World} {R : World → Value → Prop} {K : Act → World → Prop} (d : Option Tmp) (hd : o.dst = d) (h : Draw.Runs P o a.eval w R) (hK : ∀ w' v, R w' v → K (a.put d v) w') : o.wp P a w K Q := by
  subst hd
  exact Draw.Runs.wp h hK
/-- A machine and its link lie in their blocks. -/
structure Mb (gm gl : Nat) (m : M) (W : World) : Prop where
  a : Blk W gm (mc m gl) MT
  b : Blk W gl (lc m.l) LT
  ne : gm ≠ gl
theorem Mb.call {gm gl : Nat} {m : M} {W W' : World} (h : Mb gm gl m W) (hb : Below W.heap.size W W') : Mb gm gl m W' :=
  ⟨(hb.block _ h.a.lt).trans h.a, (hb.block _ h.b.lt).trans h.b, h.ne⟩
theorem kq_below {B p q : Nat} {w w' : World} (h : Below B w w') : Kq B p q w w' := ⟨h.os, h.tape, h.output, h.size, fun k hk _ _ => h.block k hk⟩
theorem kq_kp {B p q : Nat} {w w' : World} (h : Kp B q w w') : Kq B p q w w' := ⟨h.os, h.tape, h.output, h.size, fun k hk _ hq => h.block k hk hq⟩
theorem kq_kp' {B p q : Nat} {w w' : World} (h : Kp B p w w') : Kq B p q w w' := ⟨h.os, h.tape, h.output, h.size, fun k hk hp _ => h.block k hk hp⟩
theorem Kq.blk {B p q g : Nat} {w w' : World} {cs : Array Value} {t : TypeId} (h : Kq B p q w w') (hb : Blk w g cs t) (hg : g < B) (h1 : g ≠ p) (h2 : g ≠ q) : Blk w' g cs t := (h.block g hg h1 h2).trans hb
theorem Kq.bel {B p q B' : Nat} {w w' : World} (h : Kq B p q w w') (h1 : B' ≤ B) (h2 : B' ≤ p) (h3 : B' ≤ q) : Below B' w w' := ⟨h.os, h.tape, h.output, h.size, fun k hk => h.block k (by omega) (by omega) (by omega)⟩
theorem acc_two (l : L) (k : K) : (l.acc k).1 = l ∨ (l.acc k).2 = 0 := by
  unfold L.acc
  split
  · exact .inl rfl
  · split
    · exact .inl rfl
    · exact .inr rfl
/-- Under way: the machine, its link, the packet that came. -/
structure Mx (w : World) (gm gl : Nat) (m : M) (k : K) (vi vp : Value) (W : World) : Prop where
  a : Blk W gm (mc m gl) MT
  b : Blk W gl (lc m.l) LT
  c : Blk W w.heap.size (pc k vi vp) PT
  kq : Kq w.heap.size gm gl w W
theorem Mx.call {w : World} {gm gl : Nat} {m : M} {k : K} {vi vp : Value} {W W' : World} (h : Mx w gm gl m k vi vp W) (hb : Below W.heap.size W W') : Mx w gm gl m k vi vp W' :=
  ⟨(hb.block _ h.a.lt).trans h.a, (hb.block _ h.b.lt).trans h.b, (hb.block _ h.c.lt).trans h.c, h.kq.trans (kq_below (hb.mono h.kq.size))⟩
theorem Mx.link {w : World} {gm gl : Nat} {m : M} {k : K} {vi vp : Value} {W W' : World} {l' : L} (h : Mx w gm gl m k vi vp W) (hb : Blk W' gl (lc l') LT) (hk : Kp W.heap.size gl W W') (hne : gm ≠ gl) (hl : gl < w.heap.size) : Mx w gm gl { m with l := l' } k vi vp W' :=
  ⟨(hk.block _ h.a.lt hne).trans h.a, hb, (hk.block _ h.c.lt (by omega)).trans h.c, h.kq.trans (kq_kp (hk.mono h.kq.size))⟩
theorem Mx.set {w : World} {gm gl : Nat} {m : M} {k : K} {vi vp : Value} {W : World} (h : Mx w gm gl m k vi vp W) (hne : gm ≠ gl) (hm : gm < w.heap.size) (off : Nat) (v : Value) (m' : M) (hs : (mc m gl).setIfInBounds off v = mc m' gl) (hl : m'.l = m.l) : Mx w gm gl m' k vi vp (W.setCell ⟨gm, off, none⟩ v) :=
  ⟨hs ▸ h.a.set v, by rw [hl]; exact far_blk h.b hne _ _, far_blk h.c (by omega) _ _, h.kq.trans (kq_kp' ((Kp.refl _ _ _).setCell ⟨gm, off, none⟩ rfl v))⟩
set_option maxRecDepth 100000 in
theorem mis_any (m : M) (gm gl : Nat) (w : World) (h : Mb gm gl m w) : Calls Tryd.prog 81 #[.pointer (some ⟨gm, 0, none⟩)] w fun e w' => e = .returned (.bool true) ∧ w = w' := by
  have c0 : w.cell? ⟨gm, 0, none⟩ = some (.pointer (some ⟨gl, 0, none⟩)) := h.a.cell _ rfl
  clear h
  go_enter Tryd.func81, Tryd.ntmps81
  go_wp2
  go_ret
  exact ⟨rfl, rfl⟩
set_option maxRecDepth 100000 in
theorem mlink_any (m : M) (gm gl : Nat) (w : World) (h : Mb gm gl m w) : Calls Tryd.prog 44 #[.pointer (some ⟨gm, 0, none⟩)] w fun e w' => e = .returned (.pointer (some ⟨gl, 0, none⟩)) ∧ w = w' := by
  have c0 : w.cell? ⟨gm, 0, none⟩ = some (.pointer (some ⟨gl, 0, none⟩)) := h.a.cell _ rfl
  clear h
  go_enter Tryd.func44, Tryd.ntmps44
  go_wp2
  go_ret
  exact ⟨rfl, rfl⟩
set_option maxRecDepth 100000 in
theorem mstate_any (m : M) (gm gl : Nat) (w : World) (h : Mb gm gl m w) : Calls Tryd.prog 47 #[.pointer (some ⟨gm, 0, none⟩)] w fun e w' => e = .returned (.int .i64 m.st) ∧ w = w' := by
  have c0 : w.cell? ⟨gm, 0, none⟩ = some (.pointer (some ⟨gl, 0, none⟩)) := h.a.cell _ rfl
  have c1 : w.cell? ⟨gm, 1, none⟩ = some (.int .i64 m.st) := h.a.cell _ rfl
  clear h
  go_enter Tryd.func47, Tryd.ntmps47
  go_wp2
  go_ret
  exact ⟨rfl, rfl⟩
set_option maxRecDepth 100000 in
theorem mgoal_any (m : M) (gm gl : Nat) (w : World) (h : Mb gm gl m w) : Calls Tryd.prog 50 #[.pointer (some ⟨gm, 0, none⟩)] w fun e w' => e = .returned (.int .u64 m.goal) ∧ w = w' := by
  have c0 : w.cell? ⟨gm, 0, none⟩ = some (.pointer (some ⟨gl, 0, none⟩)) := h.a.cell _ rfl
  have c2 : w.cell? ⟨gm, 2, none⟩ = some (.int .u64 m.goal) := h.a.cell _ rfl
  clear h
  go_enter Tryd.func50, Tryd.ntmps50
  go_wp2
  go_ret
  exact ⟨rfl, rfl⟩
set_option maxRecDepth 100000 in
theorem mlook_any (m : M) (c gm gl : Nat) (w : World) (h : Mb gm gl m w) : Calls Tryd.prog 46 #[.pointer (some ⟨gm, 0, none⟩), .int .u64 c] w fun e w' => e = .returned (.int .i64 (m.look c).st) ∧ Mb gm gl (m.look c) w' ∧ Kp w.heap.size gm w w' := by
  have c0 : w.cell? ⟨gm, 0, none⟩ = some (.pointer (some ⟨gl, 0, none⟩)) := h.a.cell _ rfl
  have c1 : w.cell? ⟨gm, 1, none⟩ = some (.int .i64 m.st) := h.a.cell _ rfl
  have c2 : w.cell? ⟨gm, 2, none⟩ = some (.int .u64 m.goal) := h.a.cell _ rfl
  have f1 : w.frozen? ⟨gm, 1, none⟩ = false := h.a.free
  by_cases h2 : m.st = 2
  · have t1 : ((m.st : Int) == 2) = true := by rw [h2]; rfl
    by_cases h3 : m.goal ≤ c
    · have HQ := Lib.hid (show m.look c = { m with st := 3 } by unfold M.look; rw [if_pos ⟨h2, h3⟩])
      have HB := Lib.hid (show Mb gm gl { m with st := 3 } (w.setCell ⟨gm, 1, none⟩ (.int .i64 3)) from ⟨h.a.set (off := 1) (.int .i64 3), far_blk h.b h.ne _ _, h.ne⟩)
      have HK := Lib.hid ((Kp.refl w.heap.size gm w).setCell ⟨gm, 1, none⟩ rfl (.int .i64 3))
      rw [HQ.out]
      clear h h2
      go_enter Tryd.func46, Tryd.ntmps46
      go_wp2
      go_ret
      exact ⟨rfl, HB.out, HK.out⟩
    · have HQ := Lib.hid (show m.look c = m by unfold M.look; rw [if_neg (fun hh => h3 hh.2)])
      have HB := Lib.hid h
      rw [HQ.out]
      clear h h2
      go_enter Tryd.func46, Tryd.ntmps46
      go_wp2
      go_ret
      exact ⟨rfl, HB.out, Kp.refl _ _ _⟩
  · have t1 : ((m.st : Int) == 2) = false := by rw [beq_eq_false_iff_ne]; omega
    have HQ := Lib.hid (show m.look c = m by unfold M.look; rw [if_neg (fun hh => h2 hh.1)])
    have HB := Lib.hid h
    rw [HQ.out]
    clear h h2
    go_enter Tryd.func46, Tryd.ntmps46
    go_wp2
    go_ret
    exact ⟨rfl, HB.out, Kp.refl _ _ _⟩
set_option maxRecDepth 100000 in
theorem mnew_yes (p e v : Nat) (w : World) (h : mayL p e v) (he : e < 18446744073709551616) :
    Calls Tryd.prog 41 #[.int .u8 p, .int .u64 e, .int .i64 v] w fun r w' => ∃ gm gl, r = .returned (.pointer (some ⟨gm, 0, none⟩)) ∧ Mb gm gl (M.make p e v) w' ∧ Below w.heap.size w w' ∧ w.heap.size ≤ gm ∧ w.heap.size ≤ gl := by
  have HN := Lib.hid (new_yes p e v w h he)
  clear h he
  go_enter Tryd.func41, Tryd.ntmps41
  go_wp2_with fail
  refine HN.out.mono ?_
  rintro r w1 ⟨rfl, hb, hbel⟩
  have HB := Lib.hid (show Mb w1.heap.size w.heap.size (M.make p e v) (w1.alloc (.cells (mc (M.make p e v) w.heap.size) MT)) from ⟨heap_alloc_new w1 _, hb.alloc _, by have := hb.lt; omega⟩)
  have HL := Lib.hid (hbel.alloc hbel.size (.cells (mc (M.make p e v) w.heap.size) MT))
  have hsz := hbel.size
  clear hb hbel
  go_wp2
  go_ret
  exact ⟨w1.heap.size, w.heap.size, rfl, HB.out, HL.out, hsz, Nat.le_refl _⟩
set_option maxRecDepth 100000 in
theorem mnew_no (p e : Nat) (v : Int) (w : World) (h : ¬ mayL p e v) :
    Calls Tryd.prog 41 #[.int .u8 p, .int .u64 e, .int .i64 v] w fun r w' => r = .returned (.pointer none) ∧ w = w' := by
  have HN := Lib.hid (fun W => new_no p e v W h)
  clear h
  go_enter Tryd.func41, Tryd.ntmps41
  go_wp2_with fail
  refine (HN.out _).mono ?_
  rintro r w' ⟨rfl, rfl⟩
  go_wp2
  go_ret
  exact ⟨rfl, rfl⟩
set_option maxRecDepth 100000 in
set_option maxHeartbeats 4000000 in
/-- What 'On' answers. -/
theorem mon_any (m : M) (k : K) (vi vp : Value) (gm gl : Nat) (w : World) (h : Mb gm gl m w) (hm : m.wf) (hk : k.wf) (hi : ∀ V, Kq w.heap.size gm gl w V → Ins V vi k.ins) (hp : ∀ V, Kq w.heap.size gm gl w V → Prs V vp k.prs) (hT : ∀ V, Kq w.heap.size gm gl w V → Tab V) :
    Calls Tryd.prog 45 #[.pointer (some ⟨gm, 0, none⟩), .agg (pc k vi vp)] w fun r w' => r = .returned (.int .i64 (m.on k).2) ∧ Mb gm gl (m.on k).1 w' ∧ Kq w.heap.size gm gl w w' := by
  have gmlt := h.a.lt
  have gllt := h.b.lt
  have hne := h.ne
  have hx0 : Mx w gm gl m k vi vp (w.alloc (.cells (pc k vi vp) PT)) := ⟨h.a.alloc _, h.b.alloc _, heap_alloc_new w _, kq_below ((Below.refl _ w).alloc (Nat.le_refl _) _)⟩
  have HIS := Lib.hid (fun V (d : Mx w gm gl m k vi vp V) => mis_any m gm gl V ⟨d.a, d.b, hne⟩)
  have HEP := Lib.hid (fun l V (hl : L.wf l) (hb : Blk V gl (lc l) LT) => epoch_any l gl V hb hl)
  have HCO := Lib.hid (fun l V (hl : L.wf l) (hb : Blk V gl (lc l) LT) => count_any l gl V hb hl)
  have HME := Lib.hid (fun l V (hl : L.wf l) (hb : Blk V gl (lc l) LT) => met_any l gl V hb hl)
  have HAC := Lib.hid (fun V (d : Mx w gm gl m k vi vp V) => acc_any m.l k vi vp gl V d.b hm.l hk (hi V d.kq) (hp V d.kq) (hT V d.kq))
  have HLW := Lib.hid hm.l
  obtain ⟨A, hA⟩ : ∃ A, A = m.l.acc k := ⟨_, rfl⟩
  obtain ⟨l', E⟩ := A
  have hlw' : l'.wf := by have := L.acc_wf (k := k) hm.l hk; rw [← hA] at this; exact this
  have HLW' := Lib.hid hlw'
  obtain ⟨R, hR⟩ : ∃ R, R = m.on k := ⟨_, rfl⟩
  rw [← hR]
  have hR2 : R = if E = 0 then (m.took k l', 0) else (m, E) := by rw [hR]; unfold M.on; rw [← hA]
  have hsame : E ≠ 0 → l' = m.l := by
    intro hE
    rcases acc_two m.l k with h1 | h1
    · rw [← hA] at h1; exact h1
    · rw [← hA] at h1; exact absurd h1 hE
  rw [← hA] at HAC
  dsimp only at HAC
  have HR := Lib.hid hR2
  have HSAME := Lib.hid hsame
  clear hA hR hR2 hsame hlw' hi hp hT hk hm h
  have hc0 := hx0.a
  have c0 : (w.alloc (.cells (pc k vi vp) PT)).cell? ⟨gm, 0, none⟩ = some (.pointer (some ⟨gl, 0, none⟩)) := hc0.cell _ rfl
  clear hc0
  go_enter Tryd.func45, Tryd.ntmps45
  go_wp2_with fail
  go_step3
  go_wp2_with fail
  refine (HIS.out _ hx0).mono ?_
  rintro r w' ⟨rfl, rfl⟩
  go_wp2_with fail
  refine (HEP.out m.l _ HLW.out hx0.b).mono ?_
  rintro r w' ⟨rfl, rfl⟩
  clear c0
  go_upto_region 4 with fail
  change Code.wp _ _ _ _ (w.alloc (.cells (pc k vi vp) PT))
  generalize w.alloc (.cells (pc k vi vp) PT) = w1 at *
  refine Draw.wp_region_prefix 5 (Mx w gm gl m k vi vp) (fun W W' => Below W.heap.size W W') (fun i W vv => match i with
      | 0 => vv = .pointer (some ⟨gm, 0, none⟩)
      | 1 => vv = .pointer (some ⟨gm, 0, none⟩)
      | 2 => vv = .pointer (some ⟨gm, 0, none⟩)
      | 3 => vv = .pointer (some ⟨gl, 0, none⟩)
      | _ => vv = .agg (pc k vi vp)) (by kernel_rfl) (by kernel_rfl) (by decide) rfl (by decide) (by decide) (by decide) ?_ (hx0.call (Below.refl _ _).drew) ?_ [15, 16, 17, 18, 19] (by rfl) 2 (by rfl) ?_
  · intro i W W' vv he hf
    exact hf
  · refine ⟨?_, ?_, ?_, ?_, ?_, trivial⟩
    all_goals intro ρ W hJ hc hf hKn
    · refine Draw.Goes.plain rfl ?_
      exact Draw.Runs.value (w' := W) (v := ρ (.tmp 0)) rfl ⟨hJ, Below.refl _ _, hKn.1.2 0 rfl⟩
    · refine Draw.Goes.plain rfl ?_
      have h0 : ρ (.tmp 15) = .pointer (some ⟨gm, 0, none⟩) := hKn.1.get 0 15 rfl rfl
      refine Draw.Runs.value (w' := W) (v := .pointer (some ⟨gm, 0, none⟩)) ?_ ⟨hJ, Below.refl _ _, rfl⟩
      simp only [execOp]; go_simp
    · refine Draw.Goes.plain rfl ?_
      have h0 : ρ (.tmp 16) = .pointer (some ⟨gm, 0, none⟩) := hKn.1.get 1 16 rfl rfl
      refine Draw.Runs.value (w' := W) (v := .pointer (some ⟨gm, 0, none⟩)) ?_ ⟨hJ, Below.refl _ _, rfl⟩
      simp only [execOp]; go_simp
    · refine Draw.Goes.plain rfl ?_
      have h0 : ρ (.tmp 17) = .pointer (some ⟨gm, 0, none⟩) := hKn.1.get 2 17 rfl rfl
      have c : W.cell? ⟨gm, 0, none⟩ = some (.pointer (some ⟨gl, 0, none⟩)) := hJ.a.cell _ rfl
      refine Draw.Runs.value (w' := W) (v := .pointer (some ⟨gl, 0, none⟩)) ?_ ⟨hJ, Below.refl _ _, rfl⟩
      simp only [execOp]; go_simp
    · refine Draw.Goes.plain rfl ?_
      have h0 : ρ (.tmp 3) = .pointer (some ⟨w.heap.size, 0, none⟩) := hKn.1.2 3 rfl
      refine Draw.Runs.value (w' := W) (v := .agg (pc k vi vp)) ?_ ⟨hJ, Below.refl _ _, rfl⟩
      exact Draw.load_row PT _ rfl _ h0 PT _ (0, 0) _ hJ.c Tryd.underlying26 rfl (pc_info k vi vp)
  · intro u W hJ hf
    have r18 : u 18 = .pointer (some ⟨gl, 0, none⟩) := hf 3 _ 18 (by decide) rfl rfl
    have r19 : u 19 = .agg (pc k vi vp) := hf 4 _ 19 (by decide) rfl rfl
    simp only [List.foldl_cons, List.foldl_nil, List.setIfInBounds_toArray, List.set_cons_succ, List.set_cons_zero, r18, r19]
    have hJ1 := hJ
    clear hJ hf
    refine Draw.wpAny_one (i := 5) (by kernel_rfl) rfl rfl ?_
    refine runs_at (some 20) rfl (R := fun V z => z = .int .i64 E ∧ Blk V gl (lc l') LT ∧ Kp W.heap.size gl W V) (Draw.Runs.enter (f := 34) (args := #[.pointer (some ⟨gl, 0, none⟩), .agg (pc k vi vp)]) (by simp only [execOp]; go_simp) ((HAC.out W hJ1).mono fun e W' ⟨he, hb⟩ => ⟨_, he, rfl, hb⟩)) ?_
    rintro W2 z ⟨rfl, hb2, hk2⟩
    refine Draw.wpAny_one (i := 6) (by kernel_rfl) rfl rfl ?_
    refine wp_value_at (some 6) rfl (v := .int .i64 E) (w' := W2) (by simp only [execOp]; go_simp) ?_
    refine Draw.wpAny_end (by kernel_rfl) ?_
    simp only [Act.put, List.setIfInBounds_toArray, List.set_cons_succ, List.set_cons_zero]
    have hx2 : Mx w gm gl { m with l := l' } k vi vp W2 := hJ1.link hb2 hk2 hne gllt
    clear hb2 hk2 hJ1 hx0
    by_cases hE : E = 0
    case neg =>
      obtain rfl : R = (m, E) := HR.out.trans (if_neg hE)
      have hEn : (E != 0) = true := by rw [bne_iff_ne]; exact hE
      obtain rfl := HSAME.out hE
      have HX := Lib.hid hx2
      clear hx2 hE
      go_wp2
      go_ret
      exact ⟨rfl, ⟨HX.out.a, HX.out.b, hne⟩, HX.out.kq⟩
    case pos =>
      subst hE
      obtain rfl : R = (m.took k l', 0) := HR.out.trans (if_pos rfl)
      have c0 : W2.cell? ⟨gm, 0, none⟩ = some (.pointer (some ⟨gl, 0, none⟩)) := hx2.a.cell _ rfl
      have c3 : W2.cell? ⟨gm, 3, none⟩ = some (.bool m.owes) := hx2.a.cell _ rfl
      have f3 : W2.frozen? ⟨gm, 3, none⟩ = false := hx2.a.free
      have b0 : W2.cell? ⟨w.heap.size, 0, none⟩ = some (.int .i64 k.kind) := hx2.c.cell _ rfl
      have HX := Lib.hid hx2
      clear hx2
      obtain ⟨O, hO⟩ : ∃ O, O = (m.owes || decide (k.kind = 1)) := ⟨_, rfl⟩
      have HO := Lib.hid hO
      clear hO
      go_upto_region 7 with fail
      go_cut [] (fun wx => Mx w gm gl { m with l := l', owes := O } k vi vp wx)
      case first =>
        cases ho : m.owes with
        | true =>
          have HQ := Lib.hid (show O = true by rw [HO.out, ho]; rfl)
          have HS := Lib.hid (HX.out.set hne gmlt 3 (.bool true) { m with l := l', owes := true } rfl rfl)
          rw [ho] at c3
          go_wp2
          go_meet
          rw [HQ.out]
          exact HS.out
        | false =>
          obtain ⟨T, hT⟩ : ∃ T, (k.kind == 1) = T := ⟨_, rfl⟩
          have HQ := Lib.hid (show O = T by rw [HO.out, ho, ← hT, Bool.false_or, Bool.eq_iff_iff]; simp)
          have HS := Lib.hid (HX.out.set hne gmlt 3 (.bool T) { m with l := l', owes := T } rfl rfl)
          rw [ho] at c3
          go_wp2
          go_meet
          rw [HQ.out]
          exact HS.out
      case rest =>
      have hx3 := hcut
      clear hcut HX c0 c3 f3 b0
      have c0 : wc.cell? ⟨gm, 0, none⟩ = some (.pointer (some ⟨gl, 0, none⟩)) := hx3.a.cell _ rfl
      have c1 : wc.cell? ⟨gm, 1, none⟩ = some (.int .i64 m.st) := hx3.a.cell _ rfl
      have f1 : wc.frozen? ⟨gm, 1, none⟩ = false := hx3.a.free
      have HX := Lib.hid hx3
      clear hx3
      obtain ⟨s1, hs1⟩ : ∃ s1, s1 = m.st1 l' := ⟨_, rfl⟩
      have HS1 := Lib.hid hs1
      clear hs1
      go_upto_region 8 with fail
      go_cut [42] (fun z wx => z = .bool (decide (l'.epoch ≠ m.l.epoch)) ∧ wc = wx)
      case first =>
        go_wp2_with fail
        refine (HEP.out l' _ HLW'.out HX.out.b).mono ?_
        rintro r w' ⟨rfl, rfl⟩
        go_wp2
        go_meet
        refine ⟨?_, rfl⟩
        congr 1
        rw [Bool.eq_iff_iff, bne_iff_ne, decide_eq_true_iff]
        omega
      case rest =>
      obtain ⟨rfl, rfl⟩ := hcut
      go_upto_if 42 with fail
      go_cut [] (fun wx => Mx w gm gl { m with l := l', owes := O, st := s1 } k vi vp wx)
      case first =>
        by_cases he : l'.epoch = m.l.epoch
        · rw [decide_eq_false (fun hh => hh he)]
          have HQ := Lib.hid (show s1 = m.st by rw [HS1.out]; unfold M.st1; rw [if_pos he])
          clear he
          go_wp2
          go_meet
          rw [HQ.out]
          exact HX.out
        · rw [decide_eq_true he]
          have HQ := Lib.hid (show s1 = 1 by rw [HS1.out]; unfold M.st1; rw [if_neg he])
          have HS := Lib.hid (HX.out.set hne gmlt 1 (.int .i64 1) { m with l := l', owes := O, st := 1 } rfl rfl)
          clear he
          go_wp2
          go_meet
          rw [HQ.out]
          exact HS.out
      case rest =>
      have hx4 := hcut
      clear hcut HX c0 c1 f1
      have c0 : wc.cell? ⟨gm, 0, none⟩ = some (.pointer (some ⟨gl, 0, none⟩)) := hx4.a.cell _ rfl
      have c1 : wc.cell? ⟨gm, 1, none⟩ = some (.int .i64 s1) := hx4.a.cell _ rfl
      have c2 : wc.cell? ⟨gm, 2, none⟩ = some (.int .u64 m.goal) := hx4.a.cell _ rfl
      have f1 : wc.frozen? ⟨gm, 1, none⟩ = false := hx4.a.free
      have f2 : wc.frozen? ⟨gm, 2, none⟩ = false := hx4.a.free
      have HX := Lib.hid hx4
      clear hx4
      go_wp2_with fail
      go_step3
      by_cases h1 : s1 = 1
      · have t1 : ((s1 : Int) == 1) = true := by rw [h1]; rfl
        cases hmt : l'.met with
        | true =>
          have HQ := Lib.hid (show m.took k l' = { m with l := l', owes := O, st := 2, goal := l'.count } by
            unfold M.took M.met1
            rw [← HS1.out, decide_eq_true h1, hmt, HO.out]; rfl)
          have HS := Lib.hid ((HX.out.set hne gmlt 1 (.int .i64 2) { m with l := l', owes := O, st := 2 } rfl rfl).set hne gmlt 2 (.int .u64 l'.count) { m with l := l', owes := O, st := 2, goal := l'.count } rfl rfl)
          clear h1
          go_wp2_with fail
          refine (HME.out l' _ HLW'.out HX.out.b).mono ?_
          rintro r w' ⟨rfl, rfl⟩
          go_wp2_with fail
          refine (HCO.out l' _ HLW'.out HX.out.b).mono ?_
          rintro r w' ⟨rfl, rfl⟩
          go_wp2
          try rw [Exit.noGoto_ret]
          go_ret
          exact ⟨rfl, by rw [HQ.out]; exact ⟨HS.out.a, HS.out.b, hne⟩, HS.out.kq⟩
        | false =>
          have HQ := Lib.hid (show m.took k l' = { m with l := l', owes := O, st := s1 } by
            unfold M.took M.met1
            rw [← HS1.out, hmt, HO.out, Bool.and_false]; rfl)
          clear h1
          go_wp2_with fail
          refine (HME.out l' _ HLW'.out HX.out.b).mono ?_
          rintro r w' ⟨rfl, rfl⟩
          go_wp2
          try rw [Exit.noGoto_ret]
          go_ret
          exact ⟨rfl, by rw [HQ.out]; exact ⟨HX.out.a, HX.out.b, hne⟩, HX.out.kq⟩
      · have t1 : ((s1 : Int) == 1) = false := by rw [beq_eq_false_iff_ne]; omega
        have HQ := Lib.hid (show m.took k l' = { m with l := l', owes := O, st := s1 } by
          unfold M.took M.met1
          rw [← HS1.out, decide_eq_false h1, HO.out, Bool.false_and]; rfl)
        clear h1
        go_wp2
        try rw [Exit.noGoto_ret]
        go_ret
        exact ⟨rfl, by rw [HQ.out]; exact ⟨HX.out.a, HX.out.b, hne⟩, HX.out.kq⟩
end Go.Proofs.YtdgbililgkhjfaaDoor.Rs
namespace Go.Proofs.YtdgbililgkhjfaaDoor.Rs
open Go.RowKit Go.Proofs.YtdgbililgkhjfaaDoor.Crc Go.Proofs.YtdgbililgkhjfaaDoor.Codec Go.Proofs.YtdgbililgkhjfaaDoor.Pk Go.Proofs.YtdgbililgkhjfaaDoor.CrcWalk Go.Proofs.YtdgbililgkhjfaaDoor.Frame Go.Proofs.YtdgbililgkhjfaaDoor.Lk
set_option linter.unusedVariables false
set_option linter.unusedSimpArgs false
abbrev ST := 91
theorem infoK : (Tryd.prog.info? PT).map (fun i => (i.zero, i.size, i.bytes)) = some (some (.agg (pc K.zero nS nS)), 11, 120) := by kernel_rfl
/-- The cells of packets without lists. -/
def pks (l : List K) : List Value := l.flatMap fun k => (pc k nS nS).toList
theorem pks_app (l m : List K) : pks (l ++ m) = pks l ++ pks m := by unfold pks; rw [List.flatMap_append]
theorem pks_len (l : List K) : (pks l).length = l.length * 11 := by
  induction l with
  | nil => rfl
  | cons k t ih => unfold pks at *; rw [List.flatMap_cons, List.length_append, ih, List.length_cons]; show 11 + _ = _; omega
theorem pk_one (k : K) : ∀ u ∈ (pc k nS nS).toList, u.oneCell' = true := by
  intro u hu
  simp [pc] at hu
  rcases hu with rfl | rfl | rfl | rfl | rfl | rfl | rfl | rfl | rfl | rfl | rfl <;> simp [Value.oneCell']
theorem ownb {W W' : World} {B sz n : Nat} {e : TypeId} {v : Value} {xs : List Value} (h : W.ownsRow B e sz v n xs) (hk : Below W.heap.size W W') : W'.ownsRow B e sz v n xs := by
  refine ⟨h.1, ?_⟩
  rcases h.2 with h5 | ⟨b, cap, cur, e1, hb1, hb, hrest⟩
  · exact .inl h5
  · refine .inr ⟨b, cap, cur, e1, hb1, ?_, hrest⟩
    rw [hk.block b (Array.getElem?_eq_some_iff.1 hb).1]; exact hb
theorem ownf {W : World} {B q sz n : Nat} {e : TypeId} {v : Value} {xs : List Value} (h : W.ownsRow B e sz v n xs) (hq : q < B) (o : Nat) (u : Value) : (W.setCell ⟨q, o, none⟩ u).ownsRow B e sz v n xs := by
  refine ⟨h.1, ?_⟩
  rcases h.2 with h5 | ⟨g, cap, cur, e1, hb1, hg, hrest⟩
  · exact .inl h5
  · refine .inr ⟨g, cap, cur, e1, hb1, ?_, hrest⟩
    show (W.heap.modify q _)[g]? = _
    rw [Array.getElem?_modify, if_neg (by omega)]; exact hg
theorem wp_row_none {o : Oper} {a : Act} {w : World} {K : Act → World → Prop} {Q : Exit → Act → World → Prop} (hd : o.dst = none) (x y : Operand) (ho : o.op = .store PT x y) (g : Nat) (cells : Array Value) (hx : a.eval x = .pointer (some ⟨g, 0, none⟩)) (hy : a.eval y = .agg cells)
    (old : Array Value) (hg : w.heap[g]? = some (.cells old PT (0, 0))) (hi : (Tryd.prog.info? PT).map (·.size) = some cells.size) (hold : old.size = cells.size) (h1 : cells.all (·.oneCell') = true) (h : K a (w.setRow g cells)) : o.wp Tryd.prog a w K Q :=
  wp_store_row PT x y ho g cells hx hy PT old hg hi hold h1 (by rw [hd]; exact h)
theorem build_run {op : Oper} {ρ : Operand → Value} {w : World} (x : Operand) (k : K) (ho : op.op = .buildSlice ST 1 #[(0, x)]) (hx : ρ x = .agg (pc k nS nS)) :
    (execOp ρ op).run Tryd.prog w = .ok (.value (.slice (some ⟨w.heap.size, 0, none⟩) 1 1)) (w.alloc (.cells (pc k nS nS) PT)) := by
  unfold pc at hx
  unfold pc
  simp only [execOp, ho]
  go_simp
/-- A slice of one packet. -/
theorem build_pk {ops : Array Oper} {rest : List Oper} {op : Oper} {a : Act} {w : World} {Q : Exit → Act → World → Prop} (x : Operand) (k : K) (hgd : op.guard = none) (ho : op.op = .buildSlice ST 1 #[(0, x)])
    (hx : a.eval x = .agg (pc k nS nS)) (h : wpList Tryd.prog ops Q rest (a.put op.dst (.slice (some ⟨w.heap.size, 0, none⟩) 1 1)) (w.alloc (.cells (pc k nS nS) PT))) : wpList Tryd.prog ops Q (op :: rest) a w :=
  wpList_plain hgd fun _ hK => Draw.wp_value (build_run x k ho hx) (hK _ _ h)
/-- Within Out: the boxes of the machine, the count, the own count, and the list so far. -/
structure Bx (s gm gl : Nat) (m : M) (cn ow : Nat) (v : Value) (l : List K) (W : World) : Prop where
  m : Mb gm gl m W
  lm : gm < s
  ll : gl < s
  bm : Blk W s #[.pointer (some ⟨gm, 0, none⟩)] 76
  bc : Blk W (s + 1) #[.int .u64 cn] 22
  bo : Blk W (s + 2) #[.int .u64 ow] 22
  bl : Blk W (s + 3) #[v] ST
  own : W.ownsRow (s + 4) PT 11 v l.length (pks l)
theorem Bx.call {s gm gl : Nat} {m : M} {cn ow : Nat} {v : Value} {l : List K} {W W' : World} (h : Bx s gm gl m cn ow v l W) (hb : Below W.heap.size W W') : Bx s gm gl m cn ow v l W' :=
  ⟨h.m.call hb, h.lm, h.ll, (hb.block _ h.bm.lt).trans h.bm, (hb.block _ h.bc.lt).trans h.bc, (hb.block _ h.bo.lt).trans h.bo, (hb.block _ h.bl.lt).trans h.bl, ownb h.own hb⟩
theorem Bx.far {s gm gl : Nat} {m : M} {cn ow : Nat} {v : Value} {l : List K} {W : World} (h : Bx s gm gl m cn ow v l W) {q : Nat} (hq : s + 4 ≤ q) (off : Nat) (u : Value) (hown : ∀ k, v.ownBlock = some k → k ≠ q) : Bx s gm gl m cn ow v l (W.setCell ⟨q, off, none⟩ u) := by
  refine ⟨⟨far_blk h.m.a (by have := h.lm; omega) _ _, far_blk h.m.b (by have := h.ll; omega) _ _, h.m.ne⟩, h.lm, h.ll, far_blk h.bm (by omega) _ _, far_blk h.bc (by omega) _ _, far_blk h.bo (by omega) _ _, far_blk h.bl (by omega) _ _, ?_⟩
  refine ⟨h.own.1, ?_⟩
  rcases h.own.2 with h5 | ⟨g, cap, cur, e1, hb1, hg, hrest⟩
  · exact .inl h5
  · have hgq : g ≠ q := hown g (by rw [e1]; rfl)
    refine .inr ⟨g, cap, cur, e1, hb1, ?_, hrest⟩
    show (W.heap.modify q _)[g]? = _
    rw [Array.getElem?_modify, if_neg (fun e => hgq e.symm)]; exact hg
/-- The row of the list has grown: the boxes are as they were. -/
theorem Bx.grown {s gm gl : Nat} {m : M} {cn ow : Nat} {v : Value} {l : List K} {W W' : World} (h : Bx s gm gl m cn ow v l W) (hg : W.grownBy W' v.ownBlock) :
    Mb gm gl m W' ∧ (gm < s ∧ gl < s) ∧ Blk W' s #[.pointer (some ⟨gm, 0, none⟩)] 76 ∧ Blk W' (s + 1) #[.int .u64 cn] 22 ∧ Blk W' (s + 2) #[.int .u64 ow] 22 ∧ Blk W' (s + 3) #[v] ST := by
  have hl := h.own.lt
  have h1 := h.lm
  have h2 := h.ll
  exact ⟨⟨(hg.block gm h.m.a.lt (fun e => by have := (hl _ e.symm).1; omega)).trans h.m.a, (hg.block gl h.m.b.lt (fun e => by have := (hl _ e.symm).1; omega)).trans h.m.b, h.m.ne⟩, ⟨h1, h2⟩, (hg.block _ h.bm.lt (fun e => by have := (hl _ e.symm).1; omega)).trans h.bm,
    (hg.block _ h.bc.lt (fun e => by have := (hl _ e.symm).1; omega)).trans h.bc, (hg.block _ h.bo.lt (fun e => by have := (hl _ e.symm).1; omega)).trans h.bo, (hg.block _ h.bl.lt (fun e => by have := (hl _ e.symm).1; omega)).trans h.bl⟩
theorem Bx.listed {s gm gl : Nat} {m : M} {cn ow : Nat} {v v' : Value} {l : List K} {W : World}
    (h : Mb gm gl m W ∧ (gm < s ∧ gl < s) ∧ Blk W s #[.pointer (some ⟨gm, 0, none⟩)] 76 ∧ Blk W (s + 1) #[.int .u64 cn] 22 ∧ Blk W (s + 2) #[.int .u64 ow] 22 ∧ Blk W (s + 3) #[v] ST)
    (ho : W.ownsRow (s + 4) PT 11 v' l.length (pks l)) : Bx s gm gl m cn ow v' l (W.setCell ⟨s + 3, 0, none⟩ v') := by
  obtain ⟨hm, ⟨h1, h2⟩, a1, a2, a3, a4⟩ := h
  exact ⟨⟨far_blk hm.a (by omega) _ _, far_blk hm.b (by omega) _ _, hm.ne⟩, h1, h2, far_blk a1 (by omega) _ _, far_blk a2 (by omega) _ _, far_blk a3 (by omega) _ _, a4.set v', ownf ho (by omega) _ _⟩
set_option maxRecDepth 100000 in
set_option maxHeartbeats 4000000 in
/-- One more packet is told. -/
theorem add_any (kd : Int) (m : M) (cn ow s gm gl : Nat) (v : Value) (l : List K) (w : World) (h : Bx s gm gl m cn ow v l w) (hm : m.wf) (hl : l.length ≤ 1) (hc : cn < 18446744073709551616) (ho : ow < 18446744073709551616) :
    Calls Tryd.prog 85 #[.int .i64 kd, .pointer (some ⟨s, 0, none⟩), .pointer (some ⟨s + 1, 0, none⟩), .pointer (some ⟨s + 2, 0, none⟩), .pointer (some ⟨s + 3, 0, none⟩)] w fun r w' => r = .returned (.tuple #[]) ∧ ∃ v', Bx s gm gl m cn ow v' (l ++ [told m.l kd cn ow]) w' ∧ Below (s + 3) w w' := by
  obtain ⟨i0, hi, hz0, hz1, hz2⟩ := info_parts infoK
  have hs3 := h.bl.lt
  have HHD := Lib.hid (fun W (hb : Blk W gl (lc m.l) LT) => hdr_any m.l kd cn gl W hb hm.l)
  have HX0 := Lib.hid h
  clear hm h
  go_enter Tryd.func85, Tryd.ntmps85
  go_upto_region 0 with fail
  refine Draw.wp_region_prefix 8 (fun W => Bx s gm gl m cn ow v l W ∧ Below w.heap.size w W) (fun W W' => Below W.heap.size W W') (fun i W vv => match i with
      | 0 => vv = .pointer (some ⟨gm, 0, none⟩)
      | 1 => vv = .pointer (some ⟨gm, 0, none⟩)
      | 2 => vv = .pointer (some ⟨gm, 0, none⟩)
      | 3 => vv = .pointer (some ⟨gl, 0, none⟩)
      | 4 => vv = .int .i64 kd
      | 5 => vv = .int .u64 cn
      | 6 => vv = .agg (pc (m.l.hdr kd cn) nS nS)
      | _ => PtrT PT (pc K.zero nS nS) w.heap.size W vv) (by kernel_rfl) (by kernel_rfl) (by decide) rfl (by decide) (by decide) (by decide) ?_ ⟨HX0.out.call (Below.refl _ _).drew, (Below.refl _ _).drew⟩ ?_ [7, 8, 9, 10, 11, 12, 13, 6] (by rfl) 1 (by rfl) ?_
  · intro i W W' vv he hf
    match i with
    | n + 7 => exact PtrT.call hf he
    | 0 | 1 | 2 | 3 | 4 | 5 | 6 => exact hf
  · refine ⟨?_, ?_, ?_, ?_, ?_, ?_, ?_, ?_, trivial⟩
    all_goals intro ρ W hJ hc hf hKn
    · refine Draw.Goes.plain rfl ?_
      have h0 : ρ (.tmp 1) = .pointer (some ⟨s, 0, none⟩) := hKn.1.2 1 rfl
      have c : W.cell? ⟨s, 0, none⟩ = some (.pointer (some ⟨gm, 0, none⟩)) := hJ.1.bm.cell _ rfl
      refine Draw.Runs.value (w' := W) (v := .pointer (some ⟨gm, 0, none⟩)) ?_ ⟨hJ, Below.refl _ _, rfl⟩
      simp only [execOp]; go_simp
    · refine Draw.Goes.plain rfl ?_
      have h0 : ρ (.tmp 7) = .pointer (some ⟨gm, 0, none⟩) := hKn.1.get 0 7 rfl rfl
      refine Draw.Runs.value (w' := W) (v := .pointer (some ⟨gm, 0, none⟩)) ?_ ⟨hJ, Below.refl _ _, rfl⟩
      simp only [execOp]; go_simp
    · refine Draw.Goes.plain rfl ?_
      have h0 : ρ (.tmp 8) = .pointer (some ⟨gm, 0, none⟩) := hKn.1.get 1 8 rfl rfl
      refine Draw.Runs.value (w' := W) (v := .pointer (some ⟨gm, 0, none⟩)) ?_ ⟨hJ, Below.refl _ _, rfl⟩
      simp only [execOp]; go_simp
    · refine Draw.Goes.plain rfl ?_
      have h0 : ρ (.tmp 9) = .pointer (some ⟨gm, 0, none⟩) := hKn.1.get 2 9 rfl rfl
      have c : W.cell? ⟨gm, 0, none⟩ = some (.pointer (some ⟨gl, 0, none⟩)) := hJ.1.m.a.cell _ rfl
      refine Draw.Runs.value (w' := W) (v := .pointer (some ⟨gl, 0, none⟩)) ?_ ⟨hJ, Below.refl _ _, rfl⟩
      simp only [execOp]; go_simp
    · refine Draw.Goes.plain rfl ?_
      exact Draw.Runs.value (w' := W) (v := ρ (.tmp 0)) rfl ⟨hJ, Below.refl _ _, hKn.1.2 0 rfl⟩
    · refine Draw.Goes.plain rfl ?_
      have h0 : ρ (.tmp 2) = .pointer (some ⟨s + 1, 0, none⟩) := hKn.1.2 2 rfl
      have c : W.cell? ⟨s + 1, 0, none⟩ = some (.int .u64 cn) := hJ.1.bc.cell _ rfl
      refine Draw.Runs.value (w' := W) (v := .int .u64 cn) ?_ ⟨hJ, Below.refl _ _, rfl⟩
      simp only [execOp]; go_simp
    · refine Draw.Goes.plain rfl ?_
      have h0 : ρ (.tmp 10) = .pointer (some ⟨gl, 0, none⟩) := hKn.1.get 3 10 rfl rfl
      have h1 : ρ (.tmp 11) = .int .i64 kd := hKn.1.get 4 11 rfl rfl
      have h2 : ρ (.tmp 12) = .int .u64 cn := hKn.1.get 5 12 rfl rfl
      refine Draw.Runs.enter (f := 40) (args := #[.pointer (some ⟨gl, 0, none⟩), .int .i64 kd, .int .u64 cn]) ?_ ((HHD.out W hJ.1.m.b).mono fun e W' ⟨he, hb⟩ => ⟨_, he, ⟨hJ.1.call hb, hJ.2.trans (Below.mono (hb) hJ.2.size)⟩, hb, rfl⟩)
      simp only [execOp]; go_simp
    · refine Draw.Goes.plain rfl ?_
      refine Draw.Runs.value (w' := W.alloc (.cells (pc K.zero nS nS) PT)) (v := .pointer (some ⟨W.heap.size, 0, none⟩)) ?_ ⟨⟨hJ.1.call (bel_alloc _ _), hJ.2.trans ((bel_alloc _ _).mono hJ.2.size)⟩, bel_alloc _ _, W.heap.size, rfl, heap_alloc_new W _, hJ.2.size⟩
      simp only [execOp, pc, K.zero]; go_simp
  · intro u W hJ hf
    obtain ⟨gg6, r6, hb6⟩ : PtrT PT (pc K.zero nS nS) w.heap.size W (u 6) := hf 7 _ 6 (by decide) rfl rfl
    have r13 : u 13 = .agg (pc (m.l.hdr kd cn) nS nS) := hf 6 _ 13 (by decide) rfl rfl
    simp only [List.foldl_cons, List.foldl_nil, List.setIfInBounds_toArray, List.set_cons_succ, List.set_cons_zero, r6, r13]
    have hX1 := hJ.1
    have hB1 := hJ.2
    clear hJ hf
    refine Draw.wpAny_one (i := 8) (by kernel_rfl) rfl rfl ?_
    refine wp_row_none rfl (.tmp 6) (.tmp 13) rfl gg6 (pc (m.l.hdr kd cn) nS nS) rfl rfl (pc K.zero nS nS) hb6.1 (pc_info _ _ _) rfl (pc_all _ slnil) ?_
    refine Draw.wpAny_end (by kernel_rfl) ?_
    have hg6 : Blk (W.setRow gg6 (pc (m.l.hdr kd cn) nS nS)) gg6 (pc (m.l.hdr kd cn) nS nS) PT := setRow_heap _ _ _ _ _ _ hb6.1
    have hB2 : Below w.heap.size w (W.setRow gg6 (pc (m.l.hdr kd cn) nS nS)) := below_setRow hB1 hb6.2 _
    have hX2 := HX0.out.call hB2
    generalize W.setRow gg6 (pc (m.l.hdr kd cn) nS nS) = W2 at *
    have hge6 : w.heap.size ≤ gg6 := hb6.2
    clear hX1 hB1 hb6
    have c3 : W2.cell? ⟨s + 2, 0, none⟩ = some (.int .u64 ow) := hX2.bo.cell _ rfl
    have c2 : W2.cell? ⟨s + 1, 0, none⟩ = some (.int .u64 cn) := hX2.bc.cell _ rfl
    have c5 := hg6.cell (off := 5) _ rfl
    have f5 : W2.frozen? ⟨gg6, 5, none⟩ = false := hg6.free
    have hs6 : s + 4 ≤ gg6 := by omega
    have HS5 := Lib.hid (show ∀ x, x = max ow cn → Blk (W2.setCell ⟨gg6, 5, none⟩ (.int .u64 x)) gg6 (pc (told m.l kd cn ow) nS nS) PT ∧ Bx s gm gl m cn ow v l (W2.setCell ⟨gg6, 5, none⟩ (.int .u64 x)) ∧ Below w.heap.size w (W2.setCell ⟨gg6, 5, none⟩ (.int .u64 x)) by
      rintro x rfl
      exact ⟨hg6.set (off := 5) _, hX2.far hs6 _ _ (fun k e => by have := (HX0.out.own.lt k e).2; omega), hB2.setCell (p := ⟨gg6, 5, none⟩) hge6 _⟩)
    clear hX2 hB2 hg6
    obtain ⟨mx, hmx⟩ : ∃ x, x = max ow cn := ⟨_, rfl⟩
    go_upto_region 1 with fail
    go_cut [] (fun wx => Blk wx gg6 (pc (told m.l kd cn ow) nS nS) PT ∧ Bx s gm gl m cn ow v l wx ∧ Below w.heap.size w wx)
    case first =>
      by_cases hlt : ow < cn
      · have HM := Lib.hid (show cn = max ow cn by omega)
        clear hmx
        go_wp2
        go_meet
        exact HS5.out _ HM.out
      · have HM := Lib.hid (show ow = max ow cn by omega)
        clear hmx
        go_wp2
        go_meet
        exact HS5.out _ HM.out
    case rest =>
    obtain ⟨hg7, hX7, hB7⟩ := hcut
    clear HS5 c3 c2 c5 f5 hmx
    obtain ⟨tk, htk⟩ : ∃ x, x = told m.l kd cn ow := ⟨_, rfl⟩
    rw [← htk] at hg7
    have HTK := Lib.hid htk
    have c4 : wc.cell? ⟨s + 3, 0, none⟩ = some v := hX7.bl.cell _ rfl
    have f4 : wc.frozen? ⟨s + 3, 0, none⟩ = false := hX7.bl.free
    clear htk hc ho
    have hn8 : Blk (wc.alloc (.cells (pc tk nS nS) PT)) wc.heap.size (pc tk nS nS) PT := heap_alloc_new wc _
    have hX8 := hX7.call (bel_alloc wc (.cells (pc tk nS nS) PT))
    have hB8 : Below w.heap.size w (wc.alloc (.cells (pc tk nS nS) PT)) := hB7.alloc hB7.size _
    have hsz8 : (wc.alloc (.cells (pc tk nS nS) PT)).heap.size = wc.heap.size + 1 := by simp
    have hszc := hB7.size
    have hlen1 : l.length + 1 ≤ maxLen := by unfold maxLen; omega
    go_wp2_with (first | (refine load_pk (.tmp 6) gg6 tk _ _ hg7 rfl rfl rfl ?_) | (refine build_pk (.tmp 19) tk rfl rfl rfl ?_) | (at_builtin; refine wpList_append_lies _ rfl (.tmp 18) (.tmp 20) ST rfl (s + 4) PT i0 _ 11 120 Tryd.underlying91 hi hz0 hz1 hz2 rfl (by decide) v l.length (pks l) rfl hX8.own ⟨wc.heap.size, 0, none⟩ 1 1 (pc tk nS nS).toList rfl rfl (World.news_of_block hn8) (pk_one tk) (by decide) hlen1 (by omega) (by omega) _ rfl ?_))
    intro g cap w3 hown3 hgrow hat hlt3
    have hown := hX8.own
    have hX9 := hX8.grown hgrow
    have hB9 : Below (s + 3) w w3 := (hB8.mono (by omega)).grown hgrow (by omega) (fun k e => by have := (hown.lt k e).1; omega)
    have hX10 : Bx s gm gl m cn ow (.slice (some ⟨g, 0, none⟩) (l.length + 1) cap) (l ++ [tk]) (w3.setCell ⟨s + 3, 0, none⟩ (.slice (some ⟨g, 0, none⟩) (l.length + 1) cap)) := Bx.listed hX9 (by rw [List.length_append, pks_app]; exact hown3)
    have hB10 : Below (s + 3) w (w3.setCell ⟨s + 3, 0, none⟩ (.slice (some ⟨g, 0, none⟩) (l.length + 1) cap)) := hB9.setCell (p := ⟨s + 3, 0, none⟩) (Nat.le_refl _) _
    have c4' : w3.cell? ⟨s + 3, 0, none⟩ = some v := hX9.2.2.2.2.2.cell _ rfl
    have f4' : w3.frozen? ⟨s + 3, 0, none⟩ = false := hX9.2.2.2.2.2.free
    have HT := Lib.hid hX10
    have HB := Lib.hid hB10
    clear hX10 hB10 hX9 hB9 hX8 hX7 hown hown3 hgrow hB7 hB8 hg7 hn8
    go_wp2
    go_end0
    exact ⟨rfl, _, HTK.out ▸ HT.out, HB.out⟩
theorem res_slice {fn : Func} {p : Tmp} (h : fn.results = #[.cell p ST]) (tmps : Array Value) (w : World) (g : Nat) (v : Value) (hp : tmps.getD p undef = .pointer (some ⟨g, 0, none⟩)) (hc : w.cell? ⟨g, 0, none⟩ = some v) :
    (results fn tmps).run Tryd.prog w = .ok v w := by
  have hp' : tmps[p]?.getD undef = .pointer (some ⟨g, 0, none⟩) := by simpa using hp
  simp only [results, h]
  go_simp
theorem own_slice {W : World} {B sz n : Nat} {e : TypeId} {v : Value} {xs : List Value} (h : W.ownsRow B e sz v n xs) : ∃ b m c, v = .slice b m c := by
  rcases h.2 with ⟨h1, _⟩ | ⟨g, cap, cur, e1, _⟩
  · exact ⟨_, _, _, h1⟩
  · exact ⟨_, _, _, e1⟩
theorem Bx.mset {s gm gl : Nat} {m m' : M} {cn ow : Nat} {v : Value} {l : List K} {W : World} (h : Bx s gm gl m cn ow v l W) (off : Nat) (u : Value) (hs : (mc m gl).setIfInBounds off u = mc m' gl) (hl : m'.l = m.l) : Bx s gm gl m' cn ow v l (W.setCell ⟨gm, off, none⟩ u) := by
  have h1 := h.lm
  have h2 := h.ll
  exact ⟨⟨hs ▸ h.m.a.set u, by rw [hl]; exact far_blk h.m.b h.m.ne _ _, h.m.ne⟩, h1, h2, far_blk h.bm (by omega) _ _, far_blk h.bc (by omega) _ _, far_blk h.bo (by omega) _ _, far_blk h.bl (by omega) _ _, ownf h.own (by omega) _ _⟩
theorem ownk {W W' : World} {B g sz n : Nat} {e : TypeId} {v : Value} {xs : List Value} (h : W.ownsRow B e sz v n xs) (hk : Kp W.heap.size g W W') (hg : g < B) : W'.ownsRow B e sz v n xs := by
  refine ⟨h.1, ?_⟩
  rcases h.2 with h5 | ⟨b, cap, cur, e1, hb1, hb, hrest⟩
  · exact .inl h5
  · exact .inr ⟨b, cap, cur, e1, hb1, (hk.block b (Array.getElem?_eq_some_iff.1 hb).1 (by omega)).trans hb, hrest⟩
theorem Bx.link {s gm gl : Nat} {m : M} {l' : L} {cn ow : Nat} {v : Value} {l : List K} {W W' : World} (h : Bx s gm gl m cn ow v l W) (hb : Blk W' gl (lc l') LT) (hk : Kp W.heap.size gl W W') : Bx s gm gl { m with l := l' } cn ow v l W' := by
  have h1 := h.lm
  have h2 := h.ll
  exact ⟨⟨(hk.block _ h.m.a.lt h.m.ne).trans h.m.a, hb, h.m.ne⟩, h1, h2, (hk.block _ h.bm.lt (by omega)).trans h.bm, (hk.block _ h.bc.lt (by omega)).trans h.bc, (hk.block _ h.bo.lt (by omega)).trans h.bo, (hk.block _ h.bl.lt (by omega)).trans h.bl, ownk h.own hk (by omega)⟩
set_option maxRecDepth 100000 in
set_option maxHeartbeats 4000000 in
/-- What 'Out' tells. -/
theorem out_any (m : M) (now cn ow gm gl : Nat) (w : World) (h : Mb gm gl m w) (hm : m.wf) (hn : now < 18446744073709551616) (hc : cn < 18446744073709551616) (ho : ow < 18446744073709551616) :
    Calls Tryd.prog 51 #[.pointer (some ⟨gm, 0, none⟩), .int .u64 now, .int .u64 cn, .int .u64 ow] w fun r w' => ∃ v, r = .returned v ∧ Mb gm gl (m.outs now) w' ∧ w'.ownsRow (w.heap.size + 4) PT 11 v (m.out now cn ow).length (pks (m.out now cn ow)) ∧ Kq w.heap.size gm gl w w' := by
  have gmlt := h.a.lt
  have gllt := h.b.lt
  have hX1 : Bx w.heap.size gm gl m cn ow (.slice none 0 0) [] ((((w.alloc (.cells #[.pointer (some ⟨gm, 0, none⟩)] 76)).alloc (.cells #[.int .u64 cn] 22)).alloc (.cells #[.int .u64 ow] 22)).alloc (.cells #[.slice none 0 0] ST)) := by
    have e1 : (w.alloc (.cells #[.pointer (some ⟨gm, 0, none⟩)] 76)).heap.size = w.heap.size + 1 := by simp
    have e2 : ((w.alloc (.cells #[.pointer (some ⟨gm, 0, none⟩)] 76)).alloc (.cells #[.int .u64 cn] 22)).heap.size = w.heap.size + 2 := by simp
    have e3 : (((w.alloc (.cells #[.pointer (some ⟨gm, 0, none⟩)] 76)).alloc (.cells #[.int .u64 cn] 22)).alloc (.cells #[.int .u64 ow] 22)).heap.size = w.heap.size + 3 := by simp
    refine ⟨⟨(((h.a.alloc _).alloc _).alloc _).alloc _, (((h.b.alloc _).alloc _).alloc _).alloc _, h.ne⟩, gmlt, gllt, Blk.alloc (Blk.alloc (Blk.alloc (heap_alloc_new w _) _) _) _, ?_, ?_, ?_, ?_⟩
    · rw [← e1]; exact Blk.alloc (Blk.alloc (heap_alloc_new _ _) _) _
    · rw [← e2]; exact Blk.alloc (heap_alloc_new _ _) _
    · rw [← e3]; exact heap_alloc_new _ _
    · exact ⟨rfl, .inl ⟨rfl, rfl⟩⟩
  have hB1 : Below w.heap.size w ((((w.alloc (.cells #[.pointer (some ⟨gm, 0, none⟩)] 76)).alloc (.cells #[.int .u64 cn] 22)).alloc (.cells #[.int .u64 ow] 22)).alloc (.cells #[.slice none 0 0] ST)) :=
    ((((Below.refl _ w).alloc (Nat.le_refl _) _).alloc (by simp) _).alloc (by simp; omega) _).alloc (by simp; omega) _
  have HX := Lib.hid hX1
  have HB := Lib.hid hB1
  have HM := Lib.hid h
  have HW := Lib.hid hm
  have HIS := Lib.hid (fun W (d : Mb gm gl m W) => mis_any m gm gl W d)
  clear hX1 hB1 h hm
  have c0 : ((((w.alloc (.cells #[.pointer (some ⟨gm, 0, none⟩)] 76)).alloc (.cells #[.int .u64 cn] 22)).alloc (.cells #[.int .u64 ow] 22)).alloc (.cells #[.slice none 0 0] ST)).cell? ⟨w.heap.size, 0, none⟩ = some (.pointer (some ⟨gm, 0, none⟩)) := HX.out.bm.cell _ rfl
  go_enter Tryd.func51, Tryd.ntmps51
  go_upto_region 1 with fail
  change Code.wp _ _ _ _ ((((w.alloc (.cells #[.pointer (some ⟨gm, 0, none⟩)] 76)).alloc (.cells #[.int .u64 cn] 22)).alloc (.cells #[.int .u64 ow] 22)).alloc (.cells #[.slice none 0 0] ST))
  generalize ((((w.alloc (.cells #[.pointer (some ⟨gm, 0, none⟩)] 76)).alloc (.cells #[.int .u64 cn] 22)).alloc (.cells #[.int .u64 ow] 22)).alloc (.cells #[.slice none 0 0] ST)) = w1 at *
  go_wp2_with fail
  refine (HIS.out _ HX.out.m).mono ?_
  rintro r w' ⟨rfl, rfl⟩
  have c3 : w1.cell? ⟨gm, 3, none⟩ = some (.bool m.owes) := HX.out.m.a.cell _ rfl
  have HADD := Lib.hid (fun (kd : Int) (m' : M) (hm : m'.wf) v l W (hX : Bx w.heap.size gm gl m' cn ow v l W) (hl : l.length ≤ 1) => add_any kd m' cn ow w.heap.size gm gl v l W hX hm hl hc ho)
  obtain ⟨l1, hl1⟩ : ∃ x, x = (if m.owes then [told m.l 2 cn ow] else []) := ⟨_, rfl⟩
  have HL1 := Lib.hid hl1
  have HLE1 := Lib.hid (show l1.length ≤ 1 by rw [hl1]; split <;> simp)
  clear hl1 hc ho
  go_upto_if 17 with fail
  go_cut [] (fun wx => ∃ v, Bx w.heap.size gm gl { m with owes := false } cn ow v l1 wx ∧ Kq w.heap.size gm gl w wx)
  case first =>
    cases hw : m.owes with
    | true =>
      have HE := Lib.hid (show [told m.l 2 cn ow] = l1 by rw [HL1.out, hw]; rfl)
      clear hw c3
      go_wp2_with fail
      refine (HADD.out 2 m HW.out _ _ _ HX.out (Nat.zero_le _)).mono ?_
      rintro r w2 ⟨rfl, v2, hX2, hB2⟩
      have c0' : w2.cell? ⟨w.heap.size, 0, none⟩ = some (.pointer (some ⟨gm, 0, none⟩)) := hX2.bm.cell _ rfl
      have c3' := hX2.m.a.cell (off := 3) _ rfl
      have f3' : w2.frozen? ⟨gm, 3, none⟩ = false := hX2.m.a.free
      have HX2 := Lib.hid (hX2.mset (m' := { m with owes := false }) 3 (.bool false) rfl rfl)
      have HK2 := Lib.hid (((kq_below HB.out).trans (kq_below (hB2.mono (by omega)))).trans (kq_kp' (q := gl) ((Kp.refl w.heap.size gm w2).setCell ⟨gm, 3, none⟩ rfl (.bool false))))
      clear hX2 hB2 c0
      go_wp2
      go_meet
      exact ⟨v2, HE.out ▸ HX2.out, HK2.out⟩
    | false =>
      have HE := Lib.hid (show [] = l1 by rw [HL1.out, hw]; rfl)
      have HQ := Lib.hid (show { m with owes := false } = m by rw [← hw])
      clear hw c3
      go_wp2
      go_meet
      exact ⟨_, by rw [HQ.out, ← HE.out]; exact HX.out, kq_below HB.out⟩
  case rest =>
  obtain ⟨v1, hX1, hK1⟩ := hcut
  clear c0 c3 HX HB HM
  have HWL := Lib.hid HW.out.l
  obtain ⟨S, hS⟩ : ∃ S, S = m.says now := ⟨_, rfl⟩
  have HS := Lib.hid hS
  have c0 : wc.cell? ⟨w.heap.size, 0, none⟩ = some (.pointer (some ⟨gm, 0, none⟩)) := hX1.bm.cell _ rfl
  have c1 : wc.cell? ⟨gm, 1, none⟩ = some (.int .i64 m.st) := hX1.m.a.cell _ rfl
  have c2 : wc.cell? ⟨gm, 0, none⟩ = some (.pointer (some ⟨gl, 0, none⟩)) := hX1.m.a.cell _ rfl
  have HX := Lib.hid hX1
  have HK := Lib.hid hK1
  have HDU := Lib.hid (due_any m.l gl now wc hX1.m.b HW.out.l hn)
  clear hX1 hK1 hS
  go_upto_region 7 with fail
  go_cut [35] (fun z wx => z = .bool S ∧ Bx w.heap.size gm gl { m with owes := false } cn ow v1 l1 wx ∧ Kq w.heap.size gm gl w wx)
  case first =>
    by_cases h1 : m.st = 1
    · have t1 : ((m.st : Int) == 1) = true := by rw [h1]; rfl
      have HQ := Lib.hid (show S = m.l.due now by rw [HS.out]; unfold M.says; rw [decide_eq_true h1, Bool.true_and])
      clear h1
      go_wp2_with fail
      refine HDU.out.mono ?_
      rintro r w2 ⟨rfl, hb⟩
      have HX2 := Lib.hid (HX.out.call hb)
      have HK2 := Lib.hid (HK.out.trans (kq_below (hb.mono HK.out.size)))
      clear hb
      go_wp2
      go_meet
      exact ⟨by rw [HQ.out], HX2.out, HK2.out⟩
    · have t1 : ((m.st : Int) == 1) = false := by rw [beq_eq_false_iff_ne]; omega
      have HQ := Lib.hid (show S = false by rw [HS.out]; unfold M.says; rw [decide_eq_false h1, Bool.false_and])
      clear h1
      go_wp2
      go_meet
      exact ⟨by rw [HQ.out], HX.out, HK.out⟩
  case rest =>
  obtain ⟨rfl, hX2, hK2⟩ := hcut
  clear c0 c1 c2 HDU HX HK
  have HX := Lib.hid hX2
  have HK := Lib.hid hK2
  have c0 : wc.cell? ⟨w.heap.size, 0, none⟩ = some (.pointer (some ⟨gm, 0, none⟩)) := hX2.bm.cell _ rfl
  clear hX2 hK2
  go_upto_if 35 with fail
  go_cut [] (fun wx => ∃ v, Bx w.heap.size gm gl (m.outs now) cn ow v (m.out now cn ow) wx ∧ Kq w.heap.size gm gl w wx)
  case first =>
    cases S with
    | true =>
      have HO := Lib.hid (show m.outs now = { { m with owes := false } with l := m.l.sent now } by unfold M.outs; rw [← HS.out]; rfl)
      have HL := Lib.hid (show m.out now cn ow = l1 ++ [told m.l 1 cn ow] by unfold M.out; rw [← HS.out, HL1.out]; rfl)
      have HW0 := Lib.hid (show M.wf { m with owes := false } from ⟨HW.out.l, HW.out.st, HW.out.goal⟩)
      go_wp2_with fail
      refine (HADD.out 1 { m with owes := false } HW0.out _ _ _ HX.out HLE1.out).mono ?_
      rintro r w2 ⟨rfl, v2, hX2, hB2⟩
      have c0' : w2.cell? ⟨w.heap.size, 0, none⟩ = some (.pointer (some ⟨gm, 0, none⟩)) := hX2.bm.cell _ rfl
      have c2' : w2.cell? ⟨gm, 0, none⟩ = some (.pointer (some ⟨gl, 0, none⟩)) := hX2.m.a.cell _ rfl
      have HSE := Lib.hid (sent_any m.l gl now w2 hX2.m.b HWL.out hn)
      have HK2 := Lib.hid (HK.out.trans (kq_below (p := gm) (q := gl) (hB2.mono (Nat.le_add_right _ _))))
      have HX2 := Lib.hid hX2
      clear hX2 hB2 c0
      go_wp2_with fail
      refine HSE.out.mono ?_
      rintro r w3 ⟨rfl, hb3, hk3⟩
      have HX3 := Lib.hid (HX2.out.link hb3 hk3)
      have HK3 := Lib.hid (HK2.out.trans (kq_kp (p := gm) (hk3.mono HK2.out.size)))
      clear hb3 hk3
      go_wp2
      go_meet
      exact ⟨v2, by rw [HO.out, HL.out]; exact HX3.out, HK3.out⟩
    | false =>
      have HO := Lib.hid (show m.outs now = { m with owes := false } by unfold M.outs; rw [← HS.out]; rfl)
      have HL := Lib.hid (show m.out now cn ow = l1 by unfold M.out; rw [← HS.out, HL1.out]; exact List.append_nil _)
      go_wp2
      go_meet
      exact ⟨v1, by rw [HO.out, HL.out]; exact HX.out, HK.out⟩
  case rest =>
  obtain ⟨v3, hX3, hK3⟩ := hcut
  clear c0 HX HK
  obtain ⟨b3, n3, k3, rfl⟩ := own_slice hX3.own
  have c8 : wc.cell? ⟨w.heap.size + 1 + 1 + 1, 0, none⟩ = some (.slice b3 n3 k3) := hX3.bl.cell _ rfl
  have f8 : wc.frozen? ⟨w.heap.size + 1 + 1 + 1, 0, none⟩ = false := hX3.bl.free
  have hb8 : Blk (wc.setCell ⟨w.heap.size + 1 + 1 + 1, 0, none⟩ (.slice b3 n3 k3)) (w.heap.size + 3) #[(.slice b3 n3 k3)] ST := hX3.bl.set (.slice b3 n3 k3)
  have c8' : (wc.setCell ⟨w.heap.size + 1 + 1 + 1, 0, none⟩ (.slice b3 n3 k3)).cell? ⟨w.heap.size + 1 + 1 + 1, 0, none⟩ = some (.slice b3 n3 k3) := hb8.cell _ rfl
  have HF := Lib.hid (show Mb gm gl (m.outs now) (wc.setCell ⟨w.heap.size + 1 + 1 + 1, 0, none⟩ (.slice b3 n3 k3)) ∧ (wc.setCell ⟨w.heap.size + 1 + 1 + 1, 0, none⟩ (.slice b3 n3 k3)).ownsRow (w.heap.size + 4) PT 11 (.slice b3 n3 k3) (m.out now cn ow).length (pks (m.out now cn ow)) ∧ Kq w.heap.size gm gl w (wc.setCell ⟨w.heap.size + 1 + 1 + 1, 0, none⟩ (.slice b3 n3 k3)) from
    ⟨⟨far_blk hX3.m.a (by omega) _ _, far_blk hX3.m.b (by omega) _ _, hX3.m.ne⟩, ownf hX3.own (by omega) _ _, hK3.trans (kq_below ((Below.refl _ wc).setCell (p := ⟨w.heap.size + 1 + 1 + 1, 0, none⟩) (by show w.heap.size ≤ w.heap.size + 1 + 1 + 1; omega) (.slice b3 n3 k3)))⟩)
  clear hX3 hK3 hb8
  go_wp2
  exact bodyPost_ret (res_slice rfl _ _ (w.heap.size + 1 + 1 + 1) _ rfl c8') rfl ⟨_, rfl, HF.out⟩
end Go.Proofs.YtdgbililgkhjfaaDoor.Rs
namespace Go.Proofs.YtdgbililgkhjfaaDoor.Rs
open Go.RowKit Go.Proofs.YtdgbililgkhjfaaDoor.Crc Go.Proofs.YtdgbililgkhjfaaDoor.Codec Go.Proofs.YtdgbililgkhjfaaDoor.Pk Go.Proofs.YtdgbililgkhjfaaDoor.CrcWalk Go.Proofs.YtdgbililgkhjfaaDoor.Frame
open Go.Proofs.YtdgbililgkhjfaaDoor.Lk (range_below)
set_option linter.unusedVariables false
set_option linter.unusedSimpArgs false
abbrev AT := 80
/-- An act. -/
structure Ac where
  what : Nat
  k : K
  bi : Option Addr
  ni : Nat
  ci : Nat
  bp : Option Addr
  np : Nat
  cp : Nat
  now : Nat
  cn : Nat
  ow : Nat
def Ac.vi (x : Ac) : Value := .slice x.bi x.ni x.ci
def Ac.vp (x : Ac) : Value := .slice x.bp x.np x.cp
def Ac.cells (x : Ac) : Array Value := #[.int .u8 x.what, .int .i64 x.k.kind, .int .u8 x.k.player, .int .u64 x.k.epoch, .int .u64 x.k.dest, .int .u64 x.k.count, .int .u64 x.k.own, .int .u64 x.k.first, .slice x.bi x.ni x.ci, .slice x.bp x.np x.cp, .int .u64 x.k.frame, .int .u64 x.k.sum, .int .u64 x.now, .int .u64 x.cn, .int .u64 x.ow]
/-- The numbers are what their types bear; short lists lie in memory. -/
structure Ac.ok (W : World) (x : Ac) : Prop where
  what : x.what < 256
  k : x.k.wf
  now : x.now < 18446744073709551616
  cn : x.cn < 18446744073709551616
  ow : x.ow < 18446744073709551616
  ins : x.ni ≤ 200 → Ins W x.vi x.k.ins
  prs : x.np ≤ 200 → Prs W x.vp x.k.prs
/-- Few inputs and pairs? -/
def Ac.few (x : Ac) : Prop := x.ni ≤ 200 ∧ x.np ≤ 200
instance (x : Ac) : Decidable x.few := by unfold Ac.few; infer_instance
/-- A slice of acts. -/
def Acts (w : World) (v : Value) (xs : List Ac) : Prop := ∃ b c, v = .slice b xs.length c ∧ xs.length ≤ maxLen ∧ ∀ i (h : i < xs.length), ∃ g o, b = some ⟨g, o, none⟩ ∧ g < w.heap.size ∧ w.rangeAt g (o + i * 15) (xs[i]).cells.toList ∧ (xs[i]).ok w
theorem Ac.ok.below {w w' : World} {x : Ac} (h : x.ok w) (hb : Below w.heap.size w w') : x.ok w' := ⟨h.what, h.k, h.now, h.cn, h.ow, fun q => (h.ins q).below hb, fun q => (h.prs q).below hb⟩
theorem Acts.below {w w' : World} {v : Value} {xs : List Ac} (h : Acts w v xs) (hb : Below w.heap.size w w') : Acts w' v xs := by
  obtain ⟨b, c, rfl, hl, hc⟩ := h
  refine ⟨b, c, rfl, hl, fun i hi => ?_⟩
  obtain ⟨g, o, h1, h2, h3, h4⟩ := hc i hi
  exact ⟨g, o, h1, Nat.lt_of_lt_of_le h2 hb.size, range_below h3 h2 hb, h4.below hb⟩
theorem Ac.cells_pk (x : Ac) {w : World} {g o : Nat} (h : w.rangeAt g o x.cells.toList) : w.rangeAt g (o + 1) (pc x.k x.vi x.vp).toList := fun j v hv => by
  have hj : j < 11 := by
    have := (List.getElem?_eq_some_iff.1 hv).1
    exact this
  rw [Nat.add_assoc]
  refine h (1 + j) v ?_
  rw [← hv]
  match j, hj with
  | 0, _ | 1, _ | 2, _ | 3, _ | 4, _ | 5, _ | 6, _ | 7, _ | 8, _ | 9, _ | 10, _ => rfl
set_option maxRecDepth 100000 in
set_option maxHeartbeats 1000000 in
/-- What 'few' answers. -/
theorem fewr_any (v : Value) (xs : List Ac) (w : World) (h : Acts w v xs) :
    Calls Tryd.prog 42 #[v] w fun r w' => r = .returned (.bool (decide (xs.length ≤ 80 ∧ ∀ x ∈ xs, x.few))) ∧ w = w' := by
  obtain ⟨b, c, rfl, hlen, hcell⟩ := h
  obtain ⟨X, hX⟩ : ∃ X, X = decide (xs.length ≤ 80 ∧ ∀ x ∈ xs, x.few) := ⟨_, rfl⟩
  rw [← hX]
  have HX := Lib.hid hX
  have HCL := Lib.hid hcell
  unfold maxLen at hlen
  clear hcell hX
  go_enter Tryd.func42, Tryd.ntmps42
  go_wp2
  go_loop [3] (fun i => ∃ j : Nat, j ≤ xs.length ∧ j ≤ 90 ∧ i = .int .i64 j ∧ ∀ x ∈ xs.take j, x.few) (fun i => xs.length - (intOf i).toNat)
  case atStart => exact ⟨0, Nat.zero_le _, by decide, rfl, by simp⟩
  case round =>
    obtain ⟨j, hj, hj9, rfl, hfew⟩ := hrel
    by_cases hlt : j < xs.length
    · by_cases h90 : j < 90
      · obtain ⟨g, o, rfl, ha, hr, hok⟩ := HCL.out j hlt
        have hc8 : w.cell? ⟨g, o + j * 15 + 1 + 7, none⟩ = some (.slice (xs[j]).bi (xs[j]).ni (xs[j]).ci) := hr 8 _ rfl
        have hc9 : w.cell? ⟨g, o + j * 15 + 1 + 8, none⟩ = some (.slice (xs[j]).bp (xs[j]).np (xs[j]).cp) := hr 9 _ rfl
        have hsn : ∀ y ∈ xs.take (j + 1), y ∈ xs.take j ∨ y = xs[j] := fun y hy => by
          rw [List.take_succ_eq_append_getElem hlt] at hy
          exact (List.mem_append.1 hy).imp id List.mem_singleton.1
        have hmem : xs[j] ∈ xs := List.getElem_mem _
        generalize xs[j] = x at *
        have HSN := Lib.hid hsn
        have HM := Lib.hid hmem
        have HF := Lib.hid hfew
        clear hsn hmem hfew hr hok
        by_cases h1 : x.ni ≤ 200
        · have t1 : decide ((x.ni : Int) > 200) = false := decide_eq_false (by omega)
          by_cases h2 : x.np ≤ 200
          · have t2 : decide ((x.np : Int) > 200) = false := decide_eq_false (by omega)
            go_wp2
            go_round
            case rel => exact ⟨j + 1, by omega, by omega, by go_num, fun y hy => (HSN.out y hy).elim (HF.out y) (fun e => e ▸ ⟨h1, h2⟩)⟩
            case measure => simp [intOf]; omega
          · have t2 : decide ((x.np : Int) > 200) = true := decide_eq_true (by omega)
            go_wp2
            go_ret
            exact ⟨by rw [HX.out, decide_eq_false (fun hh => h2 (hh.2 x HM.out).2)]; rfl, rfl⟩
        · have t1 : decide ((x.ni : Int) > 200) = true := decide_eq_true (by omega)
          go_wp2
          go_ret
          exact ⟨by rw [HX.out, decide_eq_false (fun hh => h1 (hh.2 x HM.out).1)]; rfl, rfl⟩
      · have hno : decide ((xs.length : Int) ≤ 80) = false := decide_eq_false (by omega)
        have HQ := Lib.hid (show X = false from HX.out.trans (decide_eq_false fun hh => by omega))
        clear hfew
        go_wp2
        go_ret
        exact ⟨by rw [HQ.out]; simp, rfl⟩
    · obtain rfl : j = xs.length := by omega
      rw [List.take_length] at hfew
      have HQ := Lib.hid (show X = decide (xs.length ≤ 80) from HX.out.trans (decide_eq_decide.2 ⟨fun hh => hh.1, fun hh => ⟨hh, hfew⟩⟩))
      clear hfew
      go_wp2
      go_ret
      refine ⟨?_, rfl⟩
      rw [HQ.out]
      show Ending.returned (.bool (decide ((xs.length : Int) ≤ 80))) = _
      rw [show decide ((xs.length : Int) ≤ 80) = decide (xs.length ≤ 80) from decide_eq_decide.2 (by omega)]
end Go.Proofs.YtdgbililgkhjfaaDoor.Rs
namespace Go.Proofs.YtdgbililgkhjfaaDoor.Rs
open Go.ChangeShapes Go.WideShapes Go.ChangeAt Go.RowKit Go.Proofs.YtdgbililgkhjfaaDoor.Pk
set_option linter.unusedVariables false
theorem kRact : Tryd.prog.cellsOf AT = 15 := by kernel_rfl
section
variable {H : Type} {enc : TypeId × Value → H} {W : World} {base : Nat} {spare : Nat → Bool} {held : Bool} {n : Nat}
set_option maxRecDepth 100000 in
/-- A packet that came in, as cells. -/
theorem open_pkc {cs : List Value} {y : DataW H × List MemPlace} (hl : cs.length = 11) (hf : DataW.trod enc Tryd.prog W base spare held n PT cs = some y) :
    ∃ (k : K) (b b' : Option Addr) (n n' c c' : Nat), cs = (pc k (.slice b n c) (.slice b' n' c')).toList ∧ k.wf ∧ (n ≤ 200 → Ins W (.slice b n c) k.ins) ∧ (n' ≤ 200 → Prs W (.slice b' n' c') k.prs) := by
  match cs, hl with
  | [c0, c1, c2, c3, c4, c5, c6, c7, c8, c9, c10], _ =>
    obtain ⟨xs, m, _, hx, _, hlen, hg⟩ := DataW.trod_struct Tryd.underlying26 hf
    match xs, hlen with
    | [y0, y1, y2, y3, y4, y5, y6, y7, y8, y9, y10], _ =>
      have g0 : DataW.trod enc Tryd.prog W base spare held m 3 ((([c0, c1, c2, c3, c4, c5, c6, c7, c8, c9, c10] : List Value).drop 0).take (Tryd.prog.cellsOf 3)) = some y0 := hg 0 _ rfl
      rw [kInt] at g0
      have f0 : DataW.trod enc Tryd.prog W base spare held m 3 [c0] = some y0 := g0
      have g1 : DataW.trod enc Tryd.prog W base spare held m 5 ((([c0, c1, c2, c3, c4, c5, c6, c7, c8, c9, c10] : List Value).drop 1).take (Tryd.prog.cellsOf 5)) = some y1 := hg 1 _ rfl
      rw [kU8] at g1
      have f1 : DataW.trod enc Tryd.prog W base spare held m 5 [c1] = some y1 := g1
      have g2 : DataW.trod enc Tryd.prog W base spare held m 22 ((([c0, c1, c2, c3, c4, c5, c6, c7, c8, c9, c10] : List Value).drop 2).take (Tryd.prog.cellsOf 22)) = some y2 := hg 2 _ rfl
      rw [kU64] at g2
      have f2 : DataW.trod enc Tryd.prog W base spare held m 22 [c2] = some y2 := g2
      have g3 : DataW.trod enc Tryd.prog W base spare held m 22 ((([c0, c1, c2, c3, c4, c5, c6, c7, c8, c9, c10] : List Value).drop 3).take (Tryd.prog.cellsOf 22)) = some y3 := hg 3 _ rfl
      rw [kU64] at g3
      have f3 : DataW.trod enc Tryd.prog W base spare held m 22 [c3] = some y3 := g3
      have g4 : DataW.trod enc Tryd.prog W base spare held m 22 ((([c0, c1, c2, c3, c4, c5, c6, c7, c8, c9, c10] : List Value).drop 4).take (Tryd.prog.cellsOf 22)) = some y4 := hg 4 _ rfl
      rw [kU64] at g4
      have f4 : DataW.trod enc Tryd.prog W base spare held m 22 [c4] = some y4 := g4
      have g5 : DataW.trod enc Tryd.prog W base spare held m 22 ((([c0, c1, c2, c3, c4, c5, c6, c7, c8, c9, c10] : List Value).drop 5).take (Tryd.prog.cellsOf 22)) = some y5 := hg 5 _ rfl
      rw [kU64] at g5
      have f5 : DataW.trod enc Tryd.prog W base spare held m 22 [c5] = some y5 := g5
      have g6 : DataW.trod enc Tryd.prog W base spare held m 22 ((([c0, c1, c2, c3, c4, c5, c6, c7, c8, c9, c10] : List Value).drop 6).take (Tryd.prog.cellsOf 22)) = some y6 := hg 6 _ rfl
      rw [kU64] at g6
      have f6 : DataW.trod enc Tryd.prog W base spare held m 22 [c6] = some y6 := g6
      have g7 : DataW.trod enc Tryd.prog W base spare held m 23 ((([c0, c1, c2, c3, c4, c5, c6, c7, c8, c9, c10] : List Value).drop 7).take (Tryd.prog.cellsOf 23)) = some y7 := hg 7 _ rfl
      rw [kIns] at g7
      have f7 : DataW.trod enc Tryd.prog W base spare held m 23 [c7] = some y7 := g7
      have g8 : DataW.trod enc Tryd.prog W base spare held m 24 ((([c0, c1, c2, c3, c4, c5, c6, c7, c8, c9, c10] : List Value).drop 8).take (Tryd.prog.cellsOf 24)) = some y8 := hg 8 _ rfl
      rw [kPrs] at g8
      have f8 : DataW.trod enc Tryd.prog W base spare held m 24 [c8] = some y8 := g8
      have g9 : DataW.trod enc Tryd.prog W base spare held m 22 ((([c0, c1, c2, c3, c4, c5, c6, c7, c8, c9, c10] : List Value).drop 9).take (Tryd.prog.cellsOf 22)) = some y9 := hg 9 _ rfl
      rw [kU64] at g9
      have f9 : DataW.trod enc Tryd.prog W base spare held m 22 [c9] = some y9 := g9
      have g10 : DataW.trod enc Tryd.prog W base spare held m 22 ((([c0, c1, c2, c3, c4, c5, c6, c7, c8, c9, c10] : List Value).drop 10).take (Tryd.prog.cellsOf 22)) = some y10 := hg 10 _ rfl
      rw [kU64] at g10
      have f10 : DataW.trod enc Tryd.prog W base spare held m 22 [c10] = some y10 := g10
      obtain ⟨a0, rfl, l0⟩ := cell_int f0
      obtain ⟨a1, rfl, l1⟩ := cell_u8 f1
      obtain ⟨a2, rfl, l2⟩ := cell_u64 f2
      obtain ⟨a3, rfl, l3⟩ := cell_u64 f3
      obtain ⟨a4, rfl, l4⟩ := cell_u64 f4
      obtain ⟨a5, rfl, l5⟩ := cell_u64 f5
      obtain ⟨a6, rfl, l6⟩ := cell_u64 f6
      obtain ⟨b7, n7, e7, rfl⟩ : ∃ b n e, c7 = .slice b n e := by
        rcases DataW.trod_slice Tryd.underlying23 f7 with ⟨e, _⟩ | ⟨a, len, cap, _, _, _, _, e, _⟩
        · cases e; exact ⟨_, _, _, rfl⟩
        · cases e; exact ⟨_, _, _, rfl⟩
      obtain ⟨m7, s7, l7⟩ := open_ins f7
      obtain ⟨b8, n8, e8, rfl⟩ : ∃ b n e, c8 = .slice b n e := by
        rcases DataW.trod_slice Tryd.underlying24 f8 with ⟨e, _⟩ | ⟨a, len, cap, _, _, _, _, e, _⟩
        · cases e; exact ⟨_, _, _, rfl⟩
        · cases e; exact ⟨_, _, _, rfl⟩
      obtain ⟨m8, s8, l8⟩ := open_prs f8
      obtain ⟨a9, rfl, l9⟩ := cell_u64 f9
      obtain ⟨a10, rfl, l10⟩ := cell_u64 f10
      exact ⟨⟨a0, a1, a2, a3, a4, a5, a6, s7, s8, a9, a10⟩, b7, b8, n7, n8, e7, e8, rfl, ⟨l0, l1, l2, l3, l4, l5, l6, l9, l10⟩, l7, l8⟩
set_option maxRecDepth 100000 in
/-- An act that came in, as cells. -/
theorem open_ract {cs : List Value} {y : DataW H × List MemPlace} (hl : cs.length = 15) (hf : DataW.trod enc Tryd.prog W base spare held n AT cs = some y) : ∃ x : Ac, cs = x.cells.toList ∧ x.ok W := by
  obtain ⟨xs, m, _, hx, _, hlen, hg⟩ := DataW.trod_struct Tryd.underlying80 hf
  match xs, hlen with
  | [y0, y1, y2, y3, y4], _ =>
    have g0 : DataW.trod enc Tryd.prog W base spare held m 5 ((cs.drop 0).take (Tryd.prog.cellsOf 5)) = some y0 := hg 0 _ rfl
    have g1 : DataW.trod enc Tryd.prog W base spare held m PT ((cs.drop 1).take (Tryd.prog.cellsOf PT)) = some y1 := hg 1 _ rfl
    have g2 : DataW.trod enc Tryd.prog W base spare held m 22 ((cs.drop 12).take (Tryd.prog.cellsOf 22)) = some y2 := hg 2 _ rfl
    have g3 : DataW.trod enc Tryd.prog W base spare held m 22 ((cs.drop 13).take (Tryd.prog.cellsOf 22)) = some y3 := hg 3 _ rfl
    have g4 : DataW.trod enc Tryd.prog W base spare held m 22 ((cs.drop 14).take (Tryd.prog.cellsOf 22)) = some y4 := hg 4 _ rfl
    rw [kU8] at g0
    rw [kPk] at g1
    rw [kU64] at g2 g3 g4
    obtain ⟨k, b, b', ni, np, ci, cp, hk, hw, hi, hp⟩ := open_pkc (by rw [List.length_take, List.length_drop, hl]; rfl) g1
    match cs, hl, g0, g1, g2, g3, g4, hk with
    | [c0, c1, c2, c3, c4, c5, c6, c7, c8, c9, c10, c11, c12, c13, c14], _, g0, g1, g2, g3, g4, hk =>
      obtain ⟨a0, rfl, l0⟩ := cell_u8 (show DataW.trod enc Tryd.prog W base spare held m 5 [c0] = some y0 from g0)
      obtain ⟨a2, rfl, l2⟩ := cell_u64 (show DataW.trod enc Tryd.prog W base spare held m 22 [c12] = some y2 from g2)
      obtain ⟨a3, rfl, l3⟩ := cell_u64 (show DataW.trod enc Tryd.prog W base spare held m 22 [c13] = some y3 from g3)
      obtain ⟨a4, rfl, l4⟩ := cell_u64 (show DataW.trod enc Tryd.prog W base spare held m 22 [c14] = some y4 from g4)
      have hk' : [c1, c2, c3, c4, c5, c6, c7, c8, c9, c10, c11] = (pc k (.slice b ni ci) (.slice b' np cp)).toList := hk
      simp only [pc, List.cons.injEq] at hk'
      obtain ⟨rfl, rfl, rfl, rfl, rfl, rfl, rfl, rfl, rfl, rfl, rfl, _⟩ := hk'
      exact ⟨⟨a0, k, b, ni, ci, b', np, cp, a2, a3, a4⟩, rfl, ⟨l0, hw, l2, l3, l4, hi, hp⟩⟩
set_option maxRecDepth 100000 in
/-- A slice of acts that came in. -/
theorem open_racts {r0 : Reach} {b0 : Nat} {v : Value} {d : DataW H} {p : List MemPlace} (hv : Value.okWide Tryd.prog W r0 b0 75 v) (h : DataW.Trod enc Tryd.prog W base spare held 75 v d p) : ∃ xs : List Ac, Acts W v xs := by
  obtain ⟨fuel, hf⟩ := h
  obtain ⟨b, k, c, rfl⟩ := okWide_slice Tryd.underlying75 hv
  have hf' : DataW.trod enc Tryd.prog W base spare held fuel 75 [.slice b k c] = some (d, p) := hf
  rcases DataW.trod_slice Tryd.underlying75 hf' with ⟨e, _⟩ | ⟨a, len, cap, elems, rest, m, _, e, hx, _, h1, h2, h3, hg, _⟩
  · cases e
    exact ⟨[], none, 0, rfl, Nat.zero_le _, fun i hi => absurd hi (Nat.not_lt_zero _)⟩
  · cases e
    rw [kRact] at hg
    have key : ∀ i, i < k → ∃ x : Ac, x.ok W ∧ ∀ j u, x.cells.toList[j]? = some u → W.cell? ((a.add (i * 15)).add j) = some u := fun i hi => by
      have hh := hg i hi
      have he : elems[i]? = some elems[i] := List.getElem?_eq_getElem (by omega)
      rw [he] at hh
      obtain ⟨cs, hc, ht⟩ := Option.bind_eq_some_iff.1 hh
      obtain ⟨_, hl, hcc⟩ := World.cells?_some hc
      obtain ⟨x, rfl, hok⟩ := open_ract hl ht
      refine ⟨x, hok, fun j u hu => ?_⟩
      have hj : j < 15 := (List.getElem?_eq_some_iff.1 hu).1
      exact (hcc j hj).trans hu
    have hch : ∃ f : Nat → Ac, ∀ i, i < k → (f i).ok W ∧ ∀ j u, (f i).cells.toList[j]? = some u → W.cell? ((a.add (i * 15)).add j) = some u :=
      ⟨fun i => if hi : i < k then (key i hi).choose else ⟨0, K.zero, none, 0, 0, none, 0, 0, 0, 0, 0⟩, fun i hi => by simp only [hi, dif_pos]; exact (key i hi).choose_spec⟩
    obtain ⟨f, hf⟩ := hch
    refine ⟨(List.range k).map f, some a, c, by simp, by rw [List.length_map, List.length_range]; exact Nat.le_trans h1 h2, fun i hi => ?_⟩
    have hik : i < k := by simpa using hi
    obtain ⟨hok, hcell⟩ := hf i hik
    have h00 := (hf 0 (by omega)).2 0 (.int .u8 (f 0).what) rfl
    have hs := World.cell?_spot h00
    have ha : a = ⟨a.block, a.off, none⟩ := by
      obtain ⟨b, o, s⟩ := a
      cases s with
      | none => rfl
      | some s => simp [Addr.add] at hs
    have hlt : a.block < W.heap.size := by
      have := World.block_lt_of_cell? W _ h00
      rw [ha, add_at, add_at] at this
      exact this
    refine ⟨a.block, a.off, by rw [← ha], hlt, fun j u hu => ?_, ?_⟩
    · simp only [List.getElem_map, List.getElem_range] at hu
      have hc := hcell j u hu
      rw [ha, add_at, add_at] at hc
      exact hc
    · simp only [List.getElem_map, List.getElem_range]
      exact hok
end
end Go.Proofs.YtdgbililgkhjfaaDoor.Rs
namespace Go.Proofs.YtdgbililgkhjfaaDoor.Rs
open Go.RowKit Go.Proofs.YtdgbililgkhjfaaDoor.Crc Go.Proofs.YtdgbililgkhjfaaDoor.Codec Go.Proofs.YtdgbililgkhjfaaDoor.Pk Go.Proofs.YtdgbililgkhjfaaDoor.CrcWalk Go.Proofs.YtdgbililgkhjfaaDoor.Frame Go.Proofs.YtdgbililgkhjfaaDoor.Lk
set_option linter.unusedVariables false
set_option linter.unusedSimpArgs false
/-- Packets without lists lie in memory. -/
def Pks (W : World) (v : Value) (l : List K) : Prop := ∃ b c, v = .slice b l.length c ∧ ∀ i (h : i < l.length), ∃ g, b = some ⟨g, 0, none⟩ ∧ g < W.heap.size ∧ W.rangeAt g (i * 11) (pc l[i] nS nS).toList
theorem pks_at (l : List K) (i : Nat) (h : i < l.length) (j : Nat) (hj : j < 11) : (pks l)[i * 11 + j]? = (pc l[i] nS nS).toList[j]? := by
  induction l generalizing i with
  | nil => exact absurd h (Nat.not_lt_zero _)
  | cons k t ih =>
    have e : pks (k :: t) = (pc k nS nS).toList ++ pks t := by unfold pks; rw [List.flatMap_cons]
    have h11 : (pc k nS nS).toList.length = 11 := rfl
    rw [e]
    match i with
    | 0 => rw [List.getElem?_append_left (by omega), Nat.zero_mul, Nat.zero_add]; rfl
    | i + 1 =>
      rw [List.getElem?_append_right (by omega), h11, show (i + 1) * 11 + j - 11 = i * 11 + j by omega]
      exact ih i (by simpa using h)
theorem Pks.of_own {W : World} {B : Nat} {v : Value} {l : List K} (h : W.ownsRow B PT 11 v l.length (pks l)) : Pks W v l := by
  rcases h.2 with ⟨rfl, h0⟩ | ⟨g, cap, cur, rfl, _, hg, _, _, _, ht⟩
  · exact ⟨none, 0, by rw [h0], fun i hi => absurd hi (by omega)⟩
  · refine ⟨some ⟨g, 0, none⟩, cap, rfl, fun i hi => ⟨g, rfl, (Array.getElem?_eq_some_iff.1 hg).1, fun j u hu => ?_⟩⟩
    have hj : j < 11 := (List.getElem?_eq_some_iff.1 hu).1
    have h1 : (pks l)[i * 11 + j]? = some u := (pks_at l i hi j hj).trans hu
    rw [← ht, List.getElem?_take_of_lt (by omega)] at h1
    rw [cell_of_row W g (i * 11 + j) cur PT (0, 0) hg]
    rw [← Array.getElem?_toList]; exact h1
theorem Pks.below {W W' : World} {v : Value} {l : List K} (h : Pks W v l) (hb : Below W.heap.size W W') : Pks W' v l := by
  obtain ⟨b, c, rfl, hc⟩ := h
  refine ⟨b, c, rfl, fun i hi => ?_⟩
  obtain ⟨g, h1, h2, h3⟩ := hc i hi
  exact ⟨g, h1, Nat.lt_of_lt_of_le h2 hb.size, range_below h3 h2 hb⟩
set_option maxRecDepth 100000 in
set_option maxHeartbeats 1000000 in
/-- What 'told' answers. -/
theorem told_any (v : Value) (l : List K) (ks : List Int) (g c : Nat) (w : World) (hv : Pks w v l) (hk : ∀ i (h : i < ks.length), w.cell? ⟨g, i, none⟩ = some (.int .i64 ks[i])) (hl : l.length ≤ 2) (hg : g < w.heap.size) :
    Calls Tryd.prog 52 #[v, .slice (some ⟨g, 0, none⟩) ks.length c] w fun r w' => r = .returned (.bool (decide (l.map (·.kind) = ks))) ∧ Below w.heap.size w w' := by
  obtain ⟨b, cc, rfl, hc⟩ := hv
  have HC := Lib.hid hc
  have HK := Lib.hid hk
  obtain ⟨X, hX⟩ : ∃ X, X = decide (l.map (·.kind) = ks) := ⟨_, rfl⟩
  rw [← hX]
  have HX := Lib.hid hX
  clear hc hk hX
  by_cases he : l.length = ks.length
  case neg =>
    have t1 : ((l.length : Int) != (ks.length : Int)) = true := by rw [bne_iff_ne]; omega
    have HQ := Lib.hid (show X = false by rw [HX.out]; exact decide_eq_false (fun hh => he (by rw [← hh, List.length_map])))
    go_enter Tryd.func52, Tryd.ntmps52
    go_wp2
    go_ret
    exact ⟨by rw [HQ.out]; rfl, Below.refl _ _⟩
  case pos =>
  have t1 : ((l.length : Int) != (ks.length : Int)) = false := by rw [bne_eq_false_iff_eq]; omega
  go_enter Tryd.func52, Tryd.ntmps52
  go_wp2
  go_loopw [5] (fun i wr => ∃ j : Nat, j ≤ l.length ∧ i = .int .i64 j ∧ (l.take j).map (·.kind) = ks.take j ∧ Below w.heap.size w wr) (fun i _ => l.length - (intOf i).toNat)
  case atStart => exact ⟨0, Nat.zero_le _, rfl, by simp, Below.refl _ _⟩
  case round =>
    obtain ⟨j, hj, rfl, ht, hB⟩ := hrel
    by_cases hlt : j < l.length
    · obtain ⟨gg, rfl, ha, hr⟩ := HC.out j hlt
      have hlk : j < ks.length := by omega
      have ck : wr.cell? ⟨g, j, none⟩ = some (.int .i64 ks[j]) := (hB.cell (p := ⟨g, j, none⟩) hg).trans (HK.out j hlk)
      have cl : wr.cell? ⟨gg, j * 11, none⟩ = some (.int .i64 l[j].kind) := (range_below hr ha hB) 0 _ rfl
      have HS := Lib.hid (show l[j].kind = ks[j] → (l.take (j + 1)).map (·.kind) = ks.take (j + 1) by
        intro e
        rw [List.take_succ_eq_append_getElem hlt, List.take_succ_eq_append_getElem hlk, List.map_append, ht, ← e]
        rfl)
      have HN := Lib.hid (show l[j].kind ≠ ks[j] → X = false by
        intro e
        rw [HX.out]
        refine decide_eq_false fun hh => e ?_
        have h1 : (l.map (·.kind))[j]? = ks[j]? := by rw [hh]
        rw [List.getElem?_map, List.getElem?_eq_getElem hlt, List.getElem?_eq_getElem hlk] at h1
        exact Option.some.inj h1)
      generalize l[j].kind = a at *
      generalize ks[j] = d at *
      clear hr ht
      by_cases hq : a = d
      · have t2 : ((a : Int) != d) = false := by rw [bne_eq_false_iff_eq]; exact hq
        go_wp2
        go_region
        go_wp2
        go_roundw
        case rel => exact ⟨j + 1, by omega, by go_num, HS.out hq, hB.drew⟩
        case measure => simp [intOf]; omega
      · have t2 : ((a : Int) != d) = true := by rw [bne_iff_ne]; exact hq
        go_wp2
        go_region
        go_wp2
        go_ret
        exact ⟨by rw [HN.out hq]; rfl, hB.drew⟩
    · obtain rfl : j = l.length := by omega
      rw [List.take_length, List.take_of_length_le (by omega)] at ht
      have HQ := Lib.hid (show X = true by rw [HX.out]; exact decide_eq_true ht)
      go_wp2
      go_ret
      exact ⟨by rw [HQ.out]; rfl, hB⟩
/-- A machine of the call's own. -/
structure Mv (w : World) (gm gl : Nat) (m : M) (W : World) : Prop where
  m : Mb gm gl m W
  bel : Below w.heap.size w W
  om : w.heap.size ≤ gm
  ol : w.heap.size ≤ gl
theorem Mv.call {w W W' : World} {gm gl : Nat} {m : M} (h : Mv w gm gl m W) (hb : Below W.heap.size W W') : Mv w gm gl m W' :=
  ⟨h.m.call hb, h.bel.trans (hb.mono h.bel.size), h.om, h.ol⟩
theorem Mv.upon {w W W' : World} {gm gl : Nat} {m m' : M} (h : Mv w gm gl m W) (hm : Mb gm gl m' W') (hk : Kq W.heap.size gm gl W W') : Mv w gm gl m' W' :=
  ⟨hm, h.bel.trans (Kq.bel hk h.bel.size h.om h.ol), h.om, h.ol⟩
theorem own_len {W : World} {B sz n : Nat} {e : TypeId} {v : Value} {xs : List Value} (h : W.ownsRow B e sz v n xs) : ∃ b c, v = .slice b n c := by
  rcases h.2 with ⟨h1, h2⟩ | ⟨g, cap, cur, e1, _⟩
  · exact ⟨none, 0, by rw [h1, h2]⟩
  · exact ⟨_, _, e1⟩
theorem load_pk_midg {ops : Array Oper} {rest : List Oper} {op : Oper} {a : Act} {w : World} {Q : Exit → Act → World → Prop} (x : Operand) (b o : Nat) (k : K) (vi vp : Value) (hc : w.rangeAt b o (pc k vi vp).toList) (hgd : Region.wanted op (yielded ops a.tmps) = true) (ho : op.op = .load PT x)
    (hx : a.eval x = .pointer (some ⟨b, o, none⟩)) (h : wpList Tryd.prog ops Q rest (a.put op.dst (.agg (pc k vi vp))) w) : wpList Tryd.prog ops Q (op :: rest) a w := by
  unfold wpList
  rw [if_pos hgd]
  exact .inl (wp_load_mid PT x ho b o hx (pc k vi vp).toList _ hc Tryd.underlying26 rfl (pc_info k vi vp) h)
def tk1 : K := ⟨1, 0, 2, 0, 3, 4, 0, [], [], 0, 0⟩
abbrev m1 : M := M.make 0 2 1
theorem m1_wf : m1.wf := M.make_wf (by decide) (by decide) (by decide) (by decide)
set_option maxRecDepth 100000 in
set_option maxHeartbeats 1000000 in
/-- The law's 'awake'. -/
theorem awake_any (w : World) : Calls Tryd.prog 43 #[] w fun r w' => r = .returned (.bool true) ∧ Below w.heap.size w w' := by
  have w2 : (m1.outs 1).wf := M.outs_wf m1_wf (by decide)
  have HN := Lib.hid (fun W => mnew_yes 0 2 1 W (by decide) (by decide))
  have HS := Lib.hid (fun gm gl W (d : Mv w gm gl m1 W) => mstate_any _ gm gl W d.m)
  rw [show m1.st = 1 from rfl] at HS
  have HO := Lib.hid (fun gm gl W (d : Mv w gm gl m1 W) => out_any _ 1 3 4 gm gl W d.m m1_wf (by decide) (by decide) (by decide))
  rw [show m1.out 1 3 4 = [tk1] from rfl] at HO
  have HP := Lib.hid (fun gm gl W (d : Mv w gm gl (m1.outs 1) W) => out_any _ 1 3 4 gm gl W d.m w2 (by decide) (by decide) (by decide))
  rw [show (m1.outs 1).out 1 3 4 = [] from rfl] at HP
  have HSM := Lib.hid (fun W => same_any tk1 tk1 nS nS nS nS W (ins_nil _) (prs_nil _) (ins_nil _) (prs_nil _))
  rw [decide_eq_true rfl] at HSM
  clear w2
  go_enter Tryd.func43, Tryd.ntmps43
  go_wp2_with fail
  refine (HN.out _).mono ?_
  rintro r w1 ⟨gm, gl, rfl, hb, hbel, h1, h2⟩
  have d1 : Mv w gm gl m1 w1 := ⟨hb, hbel, h1, h2⟩
  clear hb hbel h1 h2
  go_wp2_with fail
  refine (HS.out _ _ _ d1).mono ?_
  rintro r w' ⟨rfl, rfl⟩
  go_wp2_with fail
  refine (HO.out _ _ _ d1).mono ?_
  rintro r w2 ⟨v, rfl, hb, hown, hk⟩
  have d2 := d1.upon hb hk
  have hp := Pks.of_own hown
  obtain ⟨b, c, hv, hc⟩ := id hp
  obtain ⟨g, rfl, hg, hr⟩ := hc 0 (by decide)
  obtain rfl : v = .slice (some ⟨g, 0, none⟩) 1 c := hv
  clear hb hown hk d1 hc
  have hn3 : Blk (w2.alloc (.cells #[.int .i64 1] 3)) w2.heap.size #[.int .i64 1] 3 := heap_alloc_new w2 _
  have HTL := Lib.hid (told_any _ [tk1] [1] w2.heap.size 1 _ (hp.below (bel_alloc w2 (.cells #[.int .i64 1] 3))) (fun i hi => by
    have : i = 0 := by simp at hi; exact hi
    subst this
    exact hn3.cell _ rfl) (by decide) hn3.lt)
  rw [show decide ([tk1].map (·.kind) = [1]) = true from rfl] at HTL
  have HD3 := Lib.hid (d2.call (bel_alloc w2 (.cells #[.int .i64 1] 3)))
  have HR3 := Lib.hid (range_below hr hg (bel_alloc w2 (.cells #[.int .i64 1] 3)))
  have hg3 : g < (w2.alloc (.cells #[.int .i64 1] 3)).heap.size := by simp; omega
  clear d2 hp hr hn3
  go_wp2_with fail
  refine HTL.out.mono ?_
  rintro r w3 ⟨rfl, hb⟩
  have d3 := HD3.out.call hb
  have hr3 := range_below HR3.out hg3 hb
  rw [Nat.zero_mul] at hr3
  clear hb hg3
  go_wp2_with (refine load_pk_midg (.tmp 18) g 0 tk1 nS nS hr3 rfl rfl rfl ?_)
  refine (HSM.out _).mono ?_
  rintro r w4 ⟨rfl, hb⟩
  have d4 := d3.call hb
  clear hb d3 hr3
  go_wp2_with fail
  refine (HP.out _ _ _ d4).mono ?_
  rintro r w5 ⟨v5, rfl, hb, hown, hk⟩
  have HD5 := Lib.hid (d4.upon hb hk).bel
  obtain ⟨b5, c5, rfl⟩ := own_len hown
  clear hb hown hk d4
  go_wp2
  go_ret
  exact ⟨rfl, HD5.out⟩
end Go.Proofs.YtdgbililgkhjfaaDoor.Rs
namespace Go.Proofs.YtdgbililgkhjfaaDoor.Rs
open Go.RowKit Go.Proofs.YtdgbililgkhjfaaDoor.Crc Go.Proofs.YtdgbililgkhjfaaDoor.Codec Go.Proofs.YtdgbililgkhjfaaDoor.Pk Go.Proofs.YtdgbililgkhjfaaDoor.CrcWalk Go.Proofs.YtdgbililgkhjfaaDoor.Frame
open Go.Proofs.YtdgbililgkhjfaaDoor.Lk (L lc range_below load_pk_mid blk_range far_blk epoch_any)
set_option linter.unusedVariables false
set_option linter.unusedSimpArgs false
/-- The machine behind an act. -/
def M.act (m : M) (x : Ac) : M := if x.what % 3 = 0 then (m.on x.k).1 else if x.what % 3 = 1 then m.look x.cn else m
/-- What is known of a machine of epoch o. -/
structure Kn (o : Nat) (m : M) : Prop where
  own : m.l.own = o
  st : m.st ≠ 1 ↔ m.l.met = true
  ep : m.l.met = true → m.l.epoch ≠ 0
theorem on_two (m : M) (k : K) : (m.on k).2 = (m.l.acc k).2 ∧ ((m.l.acc k).2 ≠ 0 → (m.on k).1 = m) ∧ ((m.l.acc k).2 = 0 → (m.on k).1 = m.took k (m.l.told k) ∧ k.epoch ≠ 0 ∧ (m.l.acc k).1 = m.l.told k) := by
  unfold M.on
  refine ⟨?_, ?_, ?_⟩
  · split
    · next h => exact h.symm
    · rfl
  · intro h; rw [if_neg h]
  · intro h
    rw [if_pos h]
    unfold L.acc at h ⊢
    split at h
    · next h1 => exact absurd h (show ¬ (4 : Int) = 0 by decide)
    · next h1 =>
      split at h
      · next h2 => exact absurd h (show ¬ (12 : Int) = 0 by decide)
      · next h2 =>
        rw [if_neg h1, if_neg h2]
        have h3 : k.may ∧ k.only = k := Classical.not_not.1 fun h3 => h1 (.inl h3)
        exact ⟨rfl, h3.1.2.2.2.1, rfl⟩
theorem Kn.on {o : Nat} {m : M} (h : Kn o m) (k : K) : Kn o (m.on k).1 := by
  by_cases h0 : (m.l.acc k).2 = 0
  · obtain ⟨h1, h2, _⟩ := (on_two m k).2.2 h0
    rw [h1]
    have hs := h.st
    refine ⟨h.own, ?_, ?_⟩
    · show (if m.met1 (m.l.told k) = true then 2 else m.st1 (m.l.told k)) ≠ 1 ↔ (m.l.told k).met = true
      unfold M.met1 M.st1
      have e1 : (m.l.told k).epoch = max m.l.epoch k.epoch := rfl
      have e2 : (m.l.told k).met = ((!decide (m.l.epoch < k.epoch) && m.l.met) || decide (k.dest = m.l.own)) := rfl
      by_cases hh : (m.l.told k).epoch = m.l.epoch
      · rw [if_pos hh]
        rw [e1] at hh
        rw [decide_eq_false (by omega : ¬ m.l.epoch < k.epoch), Bool.not_false, Bool.true_and] at e2
        generalize (m.l.told k).met = b at *
        cases b with
        | true =>
          by_cases h9 : m.st = 1
          · simp [h9]
          · simp [h9]
        | false =>
          have hmf : m.l.met = false := by
            cases hq : m.l.met with
            | true => rw [hq] at e2; simp at e2
            | false => rfl
          have h9 : m.st = 1 := by
            by_cases h9 : m.st = 1
            · exact h9
            · have h8 := hs.1 h9
              rw [hmf] at h8
              cases h8
          simp [h9]
      · rw [if_neg hh]
        generalize (m.l.told k).met = b at *
        cases b <;> simp
    · intro _
      show max m.l.epoch k.epoch ≠ 0
      omega
  · rw [(on_two m k).2.1 h0]; exact h
theorem Kn.look {o : Nat} {m : M} (h : Kn o m) (c : Nat) : Kn o (m.look c) := by
  have hs := h.st
  refine ⟨h.own, ?_, h.ep⟩
  show (if m.st = 2 ∧ m.goal ≤ c then 3 else m.st) ≠ 1 ↔ m.l.met = true
  rw [← hs]
  split
  · next h1 => constructor <;> intro _ <;> omega
  · exact Iff.rfl
theorem Kn.act {o : Nat} {m : M} (h : Kn o m) (x : Ac) : Kn o (m.act x) := by
  unfold M.act
  split
  · exact h.on _
  · split
    · exact h.look _
    · exact h
/-- What the law's own word 'met' becomes. -/
theorem met_step {o : Nat} {m : M} (h : Kn o m) (k : K) (h0 : (m.l.acc k).2 = 0) :
    (m.on k).1.l.met = ((if (m.on k).1.l.epoch ≠ m.l.epoch then false else m.l.met) || decide (k.dest = o)) := by
  obtain ⟨h1, h2, _⟩ := (on_two m k).2.2 h0
  rw [h1, ← h.own]
  show ((!decide (m.l.epoch < k.epoch) && m.l.met) || decide (k.dest = m.l.own)) = ((if max m.l.epoch k.epoch ≠ m.l.epoch then false else m.l.met) || decide (k.dest = m.l.own))
  congr 1
  by_cases hh : m.l.epoch < k.epoch
  · rw [decide_eq_true hh, if_pos (by omega)]; rfl
  · rw [decide_eq_false hh, if_neg (by omega)]; rfl
theorem M.act_wf {m : M} {x : Ac} {w : World} (h : m.wf) (hx : x.ok w) : (m.act x).wf := by
  unfold M.act
  split
  · exact M.on_wf h hx.k
  · split
    · exact M.look_wf h
    · exact h
/-- Under way: the machine, and an act's own copy. -/
structure Ra (w : World) (gm gl ga : Nat) (m : M) (x : Ac) (W : World) : Prop where
  v : Mv w gm gl m W
  x : Blk W ga x.cells AT
  lm : gm < ga
  ll : gl < ga
theorem Ra.call {w W W' : World} {gm gl ga : Nat} {m : M} {x : Ac} (h : Ra w gm gl ga m x W) (hb : Below W.heap.size W W') : Ra w gm gl ga m x W' :=
  ⟨h.v.call hb, (hb.block _ h.x.lt).trans h.x, h.lm, h.ll⟩
theorem Ra.upon {w W W' : World} {gm gl ga : Nat} {m m' : M} {x : Ac} (h : Ra w gm gl ga m x W) (hm : Mb gm gl m' W') (hk : Kq W.heap.size gm gl W W') : Ra w gm gl ga m' x W' :=
  ⟨h.v.upon hm hk, Kq.blk hk h.x h.x.lt (by have := h.lm; omega) (by have := h.ll; omega), h.lm, h.ll⟩
def ac0 : Ac := ⟨0, K.zero, none, 0, 0, none, 0, 0, 0, 0, 0⟩
theorem ract_info (c : Ac) : (Tryd.prog.info? AT).map (·.size) = some c.cells.size := by kernel_rfl
theorem ract_all (c : Ac) : c.cells.all (·.oneCell') = true := by
  simp [Ac.cells, Value.oneCell']
theorem store_ract {ops : Array Oper} {rest : List Oper} {op : Oper} {a : Act} {w : World} {Q : Exit → Act → World → Prop} (x y : Operand) (g : Nat) (c0 c : Ac) (hb : Blk w g c0.cells AT) (hgd : op.guard = none) (ho : op.op = .store AT x y)
    (hd : op.dst = none) (hx : a.eval x = .pointer (some ⟨g, 0, none⟩)) (hy : a.eval y = .agg c.cells) (h : wpList Tryd.prog ops Q rest a (w.setRow g c.cells)) : wpList Tryd.prog ops Q (op :: rest) a w :=
  wpList_store_rowTo hgd AT x y ho hd g c.cells hx hy AT c0.cells hb (ract_info c) rfl (ract_all c) h
theorem load_ract {ops : Array Oper} {rest : List Oper} {op : Oper} {a : Act} {w : World} {Q : Exit → Act → World → Prop} (x : Operand) (b o : Nat) (c : Ac) (hc : w.rangeAt b o c.cells.toList) (hgd : op.guard = none) (ho : op.op = .load AT x)
    (hx : a.eval x = .pointer (some ⟨b, o, none⟩)) (h : wpList Tryd.prog ops Q rest (a.put op.dst (.agg c.cells)) w) : wpList Tryd.prog ops Q (op :: rest) a w :=
  wpList_load_mid hgd AT x ho b o hx c.cells.toList _ hc Tryd.underlying80 rfl (ract_info c) h
set_option maxRecDepth 100000 in
set_option maxHeartbeats 16000000 in
/-- P27.5: the law ResumeKnows. -/
theorem knows_law (e : Nat) (v : Value) (xs : List Ac) (w : World) (he : e < 18446744073709551616) (hx : Acts w v xs) (hT : Tab w) :
    Calls Tryd.prog 12 #[.int .u64 e, v] w fun r w' => r = .returned (.bool true) ∧ Below w.heap.size w w' := by
  have HA := Lib.hid (fun W => awake_any W)
  have HFW := Lib.hid (fun W (h : Below w.heap.size w W) => fewr_any v xs W (hx.below h))
  have HTT := Lib.hid hT
  have HX := Lib.hid hx
  have HN1 := Lib.hid (fun W => mnew_yes 0 1 2 W (by decide) (by decide))
  have HNE := Lib.hid (fun W (h : 1 ≤ e) => mnew_yes 0 e 2 W ⟨by decide, h, by decide, by decide⟩ he)
  obtain ⟨o, ho⟩ : ∃ o, o = max 1 e := ⟨_, rfl⟩
  obtain ⟨m0, hm0⟩ : ∃ m0, m0 = M.make 0 o 2 := ⟨_, rfl⟩
  have hw0 : m0.wf := by rw [hm0, ho]; exact M.make_wf (by decide) (by omega) (by decide) (by decide)
  have hk0 : Kn o m0 := by rw [hm0]; exact ⟨rfl, ⟨fun h => absurd rfl h, fun h => by cases h⟩, fun h => by cases h⟩
  have HM0 := Lib.hid hm0
  have HW0 := Lib.hid hw0
  have HK0 := Lib.hid hk0
  have HO := Lib.hid ho
  have HM1 := Lib.hid (show m0.l.met = false by rw [hm0]; rfl)
  clear hT hx hm0 hw0 hk0 ho
  go_enter Tryd.func12, Tryd.ntmps12
  go_upto_region 1 with fail
  go_cut [5] (fun z wx => ∃ gm gl, z = .pointer (some ⟨gm, 0, none⟩) ∧ Mv w gm gl m0 wx)
  case first =>
    by_cases h0 : 1 < e
    · go_wp2_with fail
      refine (HNE.out _ (Nat.le_of_lt h0)).mono ?_
      rintro r w1 ⟨gm, gl, rfl, hb, hbel, h1, h2⟩
      have HQ := Lib.hid (show Mv w gm gl m0 w1 from ⟨by rw [HM0.out, HO.out, Nat.max_eq_right (Nat.le_of_lt h0)]; exact hb, hbel, h1, h2⟩)
      clear hb hbel h1 h2
      go_wp2
      go_meet
      exact ⟨gm, gl, rfl, HQ.out⟩
    · go_wp2_with fail
      refine (HN1.out _).mono ?_
      rintro r w1 ⟨gm, gl, rfl, hb, hbel, h1, h2⟩
      have HQ := Lib.hid (show Mv w gm gl m0 w1 from ⟨by rw [HM0.out, HO.out, Nat.max_eq_left (Nat.le_of_not_lt h0)]; exact hb, hbel, h1, h2⟩)
      clear hb hbel h1 h2
      go_wp2
      go_meet
      exact ⟨gm, gl, rfl, HQ.out⟩
  case rest =>
  obtain ⟨gm, gl, rfl, hL0⟩ := hcut
  clear HN1 HNE HM0
  go_wp2_with fail
  refine (HFW.out _ hL0.bel).mono ?_
  rintro r w' ⟨rfl, rfl⟩
  by_cases hf : xs.length ≤ 80 ∧ ∀ x ∈ xs, x.few
  case neg =>
    rw [decide_eq_false hf]
    have hB := hL0.bel
    clear hf hL0
    go_wp2_with fail
    refine (HA.out _).mono ?_
    rintro r w3 ⟨rfl, hb⟩
    have hB3 := hB.trans (hb.mono hB.size)
    clear hb hB
    go_wp2
    go_ret
    exact ⟨rfl, hB3⟩
  case pos =>
  rw [decide_eq_true hf]
  have hl80 := hf.1
  have HFE := Lib.hid hf.2
  obtain ⟨b, c, rfl, hlen, hcell⟩ := id HX.out
  have HCL := Lib.hid hcell
  unfold maxLen at hlen
  clear hf hcell HFW HX
  go_wp2_with fail
  go_loopw [6, 7] (fun z i wr => ∃ (j : Nat) (m : M), j ≤ xs.length ∧ z = .bool m.l.met ∧ i = .int .i64 j ∧ m.wf ∧ Kn o m ∧ Mv w gm gl m wr) (fun _ i _ => xs.length - (intOf i).toNat)
  case atStart => exact ⟨0, m0, Nat.zero_le _, by rw [HM1.out], rfl, HW0.out, HK0.out, hL0⟩
  case round =>
    obtain ⟨j, m, hj, rfl, rfl, hm, hkn, hL⟩ := hrel
    by_cases hlt : j < xs.length
    · obtain ⟨gb, ob, rfl, ha, hr, hok⟩ := HCL.out j hlt
      have hfe := HFE.out xs[j] (List.getElem_mem _)
      generalize xs[j] = x at *
      have HL := Lib.hid hL
      have HMW := Lib.hid hm
      have HKN := Lib.hid hkn
      have HOK := Lib.hid hok
      have HFX := Lib.hid hfe
      have HR := Lib.hid (range_below hr ha hL.bel)
      have h8 : Blk (wr.alloc (.cells ac0.cells AT)) wr.heap.size ac0.cells AT := heap_alloc_new wr _
      have H8 := Lib.hid h8
      clear hL hm hkn hok hfe hr h8
      go_upto_region 8 with fail
      go_cut [8] (fun z wx => z = .pointer (some ⟨wr.heap.size, 0, none⟩) ∧ Ra w gm gl wr.heap.size m x wx)
      case first =>
        go_wp2_with (first | (refine load_ract (.tmp 33) gb (ob + j * 15) x HR.out rfl rfl rfl ?_) | (refine store_ract (.tmp 8) (.tmp 34) wr.heap.size ac0 x H8.out rfl rfl rfl rfl rfl ?_))
        go_meet
        refine ⟨rfl, HL.out.call (below_setRow (bel_alloc wr (.cells ac0.cells AT)) (Nat.le_refl _) _), setRow_heap _ _ _ _ _ _ H8.out, HL.out.m.a.lt, HL.out.m.b.lt⟩
      case rest =>
      obtain ⟨rfl, hR1⟩ := hcut
      clear HL HR H8
      generalize wr.heap.size = ga at *
      have HLK := Lib.hid (fun m V (d : Ra w gm gl ga m x V) => mlink_any m gm gl V d.v.m)
      have HEP := Lib.hid (fun m V (hw : M.wf m) (d : Ra w gm gl ga m x V) => epoch_any m.l gl V d.v.m.b hw.l)
      go_wp2_with fail
      refine (HLK.out m _ hR1).mono ?_
      rintro r w' ⟨rfl, rfl⟩
      go_wp2_with fail
      refine (HEP.out m _ HMW.out hR1).mono ?_
      rintro r w' ⟨rfl, rfl⟩
      obtain ⟨m1, hm1⟩ : ∃ m1, m1 = if x.what % 3 = 0 then (m.on x.k).1 else m := ⟨_, rfl⟩
      obtain ⟨S, hS⟩ : ∃ S, S = (decide (x.what % 3 = 0) && decide ((m.l.acc x.k).2 = 0)) := ⟨_, rfl⟩
      have HM1 := Lib.hid hm1
      have HS := Lib.hid hS
      have HR1 := Lib.hid hR1
      have cw : wc.cell? ⟨ga, 0, none⟩ = some (.int .u8 x.what) := hR1.x.cell _ rfl
      have HP1 := Lib.hid (x.cells_pk (blk_range hR1.x))
      clear hm1 hS hR1
      go_upto_region 10 with fail
      go_cut [48] (fun z wx => z = .bool S ∧ Ra w gm gl ga m1 x wx)
      case first =>
        obtain ⟨E, hE⟩ : ∃ E, E = (m.on x.k).2 := ⟨_, rfl⟩
        have HON := Lib.hid (fun V (d : Ra w gm gl ga m x V) => mon_any m x.k x.vi x.vp gm gl V d.v.m HMW.out HOK.out.k
          (fun U q => (HOK.out.ins HFX.out.1).below (d.v.bel.trans (Kq.bel q d.v.bel.size d.v.om d.v.ol)))
          (fun U q => (HOK.out.prs HFX.out.2).below (d.v.bel.trans (Kq.bel q d.v.bel.size d.v.om d.v.ol)))
          (fun U q => tab_below HTT.out (d.v.bel.trans (Kq.bel q d.v.bel.size d.v.om d.v.ol))))
        rw [← hE] at HON
        have HE := Lib.hid (hE.trans (on_two m x.k).1)
        clear hE
        by_cases h0 : x.what % 3 = 0
        · have hz : (x.what : Int) % 3 = 0 := by omega
          have HQ := Lib.hid (show (m.on x.k).1 = m1 by rw [HM1.out, if_pos h0])
          have HP := HP1.out
          by_cases h1 : E = 0
          · have hz2 : (E == 0) = true := by rw [beq_iff_eq]; exact h1
            have HSQ := Lib.hid (show S = true by rw [HS.out, decide_eq_true h0, decide_eq_true (HE.out ▸ h1)]; rfl)
            clear h0 h1
            go_wp2_with (refine load_pk_midg (.tmp 44) ga 1 x.k x.vi x.vp HP rfl rfl rfl ?_)
            refine (HON.out _ HR1.out).mono ?_
            rintro r w2 ⟨rfl, hb, hk⟩
            have HR2 := Lib.hid (HR1.out.upon hb hk)
            clear hb hk HP
            go_wp2
            go_meet
            exact ⟨by rw [HSQ.out], HQ.out ▸ HR2.out⟩
          · have hz2 : (E == 0) = false := by rw [beq_eq_false_iff_ne]; exact h1
            have HSQ := Lib.hid (show S = false by rw [HS.out, decide_eq_true h0, decide_eq_false (fun h => h1 (HE.out.trans h))]; rfl)
            clear h0 h1
            go_wp2_with (refine load_pk_midg (.tmp 44) ga 1 x.k x.vi x.vp HP rfl rfl rfl ?_)
            refine (HON.out _ HR1.out).mono ?_
            rintro r w2 ⟨rfl, hb, hk⟩
            have HR2 := Lib.hid (HR1.out.upon hb hk)
            clear hb hk HP
            go_wp2
            go_meet
            exact ⟨by rw [HSQ.out], HQ.out ▸ HR2.out⟩
        · obtain ⟨N, hN⟩ : ∃ N : Bool, N = ((x.what : Int) % 3 == 0) := ⟨_, rfl⟩
          have hz : ((x.what : Int) % 3 == 0) = false := by rw [beq_eq_false_iff_ne]; omega
          have HQ := Lib.hid (show m = m1 by rw [HM1.out, if_neg h0])
          have HSQ := Lib.hid (show S = false by rw [HS.out, decide_eq_false h0]; rfl)
          clear h0 hN
          go_wp2
          go_meet
          exact ⟨by rw [HSQ.out], HQ.out ▸ HR1.out⟩
      case rest =>
      obtain ⟨rfl, hR2⟩ := hcut
      have HR2 := Lib.hid hR2
      have hm1w : m1.wf := by
        rw [HM1.out]; split
        · exact M.on_wf HMW.out HOK.out.k
        · exact HMW.out
      have HM1W := Lib.hid hm1w
      have HP2 := Lib.hid ((x.cells_pk (blk_range hR2.x)) 3 (.int .u64 x.k.dest) rfl)
      clear hR2 hm1w cw HR1 HP1
      go_upto_if 48 with fail
      go_cut [6] (fun z wx => z = .bool m1.l.met ∧ Ra w gm gl ga m1 x wx)
      case first =>
        cases S with
        | false =>
          have HQ := Lib.hid (show m1 = m by
            rw [HM1.out]
            split
            · next h => exact (on_two m x.k).2.1 (fun h9 => by have h8 := HS.out; rw [decide_eq_true h, decide_eq_true h9] at h8; cases h8)
            · rfl)
          go_wp2
          go_meet
          exact ⟨by rw [HQ.out], HR2.out⟩
        | true =>
          obtain ⟨D, hD⟩ : ∃ D, D = decide (x.k.dest = o) := ⟨_, rfl⟩
          have hs2 := HS.out.symm
          rw [Bool.and_eq_true, decide_eq_true_iff, decide_eq_true_iff] at hs2
          have hms := met_step HKN.out x.k hs2.2
          rw [show (m.on x.k).1 = m1 by rw [HM1.out, if_pos hs2.1], ← hD] at hms
          have HD := Lib.hid hD
          have HMS := Lib.hid hms
          clear hD hs2 hms
          go_wp2_with fail
          refine (HLK.out m1 _ HR2.out).mono ?_
          rintro r w' ⟨rfl, rfl⟩
          go_wp2_with fail
          refine (HEP.out m1 _ HM1W.out HR2.out).mono ?_
          rintro r w' ⟨rfl, rfl⟩
          have cd : wc.cell? ⟨ga, 1 + 3, none⟩ = some (.int .u64 x.k.dest) := HP2.out
          by_cases hep : m1.l.epoch = m.l.epoch
          · have te : ((m1.l.epoch : Int) != (m.l.epoch : Int)) = false := by rw [bne_eq_false_iff_eq]; omega
            cases hq : m.l.met with
            | true =>
              have HQ := Lib.hid (show m1.l.met = true by rw [HMS.out, if_neg (fun h => h hep), hq]; rfl)
              clear hep hq
              go_wp2
              go_meet
              exact ⟨by rw [HQ.out], HR2.out⟩
            | false =>
              have HQ := Lib.hid (show m1.l.met = D by rw [HMS.out, if_neg (fun h => h hep), hq]; rfl)
              clear hep hq
              by_cases h1 : 1 < e
              · have eD : ((x.k.dest : Int) == (e : Int)) = D := by rw [HD.out, HO.out, Nat.max_eq_right (Nat.le_of_lt h1), Bool.eq_iff_iff, beq_iff_eq, decide_eq_true_iff]; omega
                go_wp2
                go_meet
                exact ⟨by rw [HQ.out, ← eD], HR2.out⟩
              · have eD : ((x.k.dest : Int) == 1) = D := by rw [HD.out, HO.out, Nat.max_eq_left (Nat.le_of_not_lt h1), Bool.eq_iff_iff, beq_iff_eq, decide_eq_true_iff]; omega
                go_wp2
                go_meet
                exact ⟨by rw [HQ.out, ← eD], HR2.out⟩
          · have te : ((m1.l.epoch : Int) != (m.l.epoch : Int)) = true := by rw [bne_iff_ne]; omega
            have HQ := Lib.hid (show m1.l.met = D by rw [HMS.out, if_pos hep]; rfl)
            clear hep
            by_cases h1 : 1 < e
            · have eD : ((x.k.dest : Int) == (e : Int)) = D := by rw [HD.out, HO.out, Nat.max_eq_right (Nat.le_of_lt h1), Bool.eq_iff_iff, beq_iff_eq, decide_eq_true_iff]; omega
              go_wp2
              go_meet
              exact ⟨by rw [HQ.out, ← eD], HR2.out⟩
            · have eD : ((x.k.dest : Int) == 1) = D := by rw [HD.out, HO.out, Nat.max_eq_left (Nat.le_of_not_lt h1), Bool.eq_iff_iff, beq_iff_eq, decide_eq_true_iff]; omega
              go_wp2
              go_meet
              exact ⟨by rw [HQ.out, ← eD], HR2.out⟩
      case rest =>
      obtain ⟨rfl, hR3⟩ := hcut
      clear HR2 HP2
      obtain ⟨m2, hm2⟩ : ∃ m2, m2 = m.act x := ⟨_, rfl⟩
      have HM2 := Lib.hid (show m2 = if x.what % 3 = 1 then m1.look x.cn else m1 by
        rw [hm2, HM1.out]
        unfold M.act
        by_cases h0 : x.what % 3 = 0
        · rw [if_pos h0, if_pos h0, if_neg (by omega)]
        · rw [if_neg h0, if_neg h0])
      have HK2 := Lib.hid (show Kn o m2 by rw [hm2]; exact HKN.out.act x)
      have HW2 := Lib.hid (show m2.wf by rw [hm2]; exact M.act_wf HMW.out HOK.out)
      obtain ⟨b, hb⟩ : ∃ b, b = m2.l.met := ⟨_, rfl⟩
      have HB := Lib.hid hb
      have HMT := Lib.hid (show m1.l.met = b by rw [hb, HM2.out]; split <;> rfl)
      have HR3 := Lib.hid hR3
      have cw : wc.cell? ⟨ga, 0, none⟩ = some (.int .u8 x.what) := hR3.x.cell _ rfl
      have cc : wc.cell? ⟨ga, 13, none⟩ = some (.int .u64 x.cn) := hR3.x.cell _ rfl
      have HLO := Lib.hid (mlook_any m1 x.cn gm gl wc hR3.v.m)
      clear hR3 hm2 hb
      rw [HMT.out]
      go_upto_region 14 with fail
      go_cut [66] (fun z wx => z = .bool (decide (x.what % 3 = 1)) ∧ wc = wx)
      case first =>
        go_wp2
        go_meet
        refine ⟨?_, rfl⟩
        congr 1
        rw [Bool.eq_iff_iff, beq_iff_eq, decide_eq_true_iff]
        omega
      case rest =>
      obtain ⟨rfl, rfl⟩ := hcut
      clear cw
      go_upto_if 66 with fail
      go_cut [] (fun wx => Ra w gm gl ga m2 x wx)
      case first =>
        by_cases h1 : x.what % 3 = 1
        · rw [decide_eq_true h1]
          have HQ := Lib.hid (show m1.look x.cn = m2 by rw [HM2.out, if_pos h1])
          clear h1
          go_wp2_with fail
          refine HLO.out.mono ?_
          rintro r w2 ⟨rfl, hb, hk⟩
          have HR4 := Lib.hid (HR3.out.upon hb (kq_kp' hk))
          clear hb hk
          go_wp2
          go_meet
          exact HQ.out ▸ HR4.out
        · rw [decide_eq_false h1]
          have HQ := Lib.hid (show m1 = m2 by rw [HM2.out, if_neg h1])
          clear h1
          go_wp2
          go_meet
          exact HQ.out ▸ HR3.out
      case rest =>
      have hR4 := hcut
      clear hcut HLO HR3 cc
      have HST := Lib.hid (mstate_any m2 gm gl wc hR4.v.m)
      have HLK2 := Lib.hid (HLK.out m2 _ hR4)
      have HEP2 := Lib.hid (HEP.out m2 _ HW2.out hR4)
      have HR4 := Lib.hid hR4
      clear hR4 HLK HEP
      go_upto_region 16 with fail
      go_cut [91] (fun z wx => z = .bool false ∧ wc = wx)
      case first =>
        cases b with
        | true =>
          have hq := HB.out.symm
          have h1 := HK2.out.st.2 hq
          have h2 := HK2.out.ep hq
          have ts : ((m2.st : Int) != 1) = true := by rw [bne_iff_ne]; omega
          have tq : ((m2.st : Int) == 1) = false := by rw [beq_eq_false_iff_ne]; omega
          have te : ((m2.l.epoch : Int) == 0) = false := by rw [beq_eq_false_iff_ne]; omega
          clear h1 h2 hq
          go_wp2_with (first | (go_at_call 47; refine HST.out.mono ?_; rintro r w' ⟨rfl, rfl⟩) | (go_at_call 44; refine HLK2.out.mono ?_; rintro r w' ⟨rfl, rfl⟩) | (go_at_call 30; refine HEP2.out.mono ?_; rintro r w' ⟨rfl, rfl⟩))
          go_meet
          exact ⟨rfl, rfl⟩
        | false =>
          have h1 : m2.st = 1 := by
            by_cases h1 : m2.st = 1
            · exact h1
            · have h2 := HK2.out.st.1 h1
              rw [← HB.out] at h2
              cases h2
          have ts : ((m2.st : Int) != 1) = false := by rw [bne_eq_false_iff_eq]; omega
          have tq : ((m2.st : Int) == 1) = true := by rw [beq_iff_eq]; omega
          clear h1
          go_wp2_with (first | (go_at_call 47; refine HST.out.mono ?_; rintro r w' ⟨rfl, rfl⟩) | (go_at_call 44; refine HLK2.out.mono ?_; rintro r w' ⟨rfl, rfl⟩) | (go_at_call 30; refine HEP2.out.mono ?_; rintro r w' ⟨rfl, rfl⟩))
          go_meet
          exact ⟨rfl, rfl⟩
      case rest =>
      obtain ⟨rfl, rfl⟩ := hcut
      clear HST HLK2 HEP2
      go_wp2
      go_roundw
      case rel => exact ⟨j + 1, m2, by omega, by rw [HB.out], by go_num, HW2.out, HK2.out, HR4.out.v⟩
      case measure => simp [intOf]; omega
    · obtain rfl : j = xs.length := by omega
      have hB := hL.bel
      clear hL hkn hm
      go_wp2_with fail
      refine (HA.out _).mono ?_
      rintro r w3 ⟨rfl, hb⟩
      have hB3 := hB.trans (hb.mono hB.size)
      clear hb hB
      go_wp2
      go_ret
      exact ⟨rfl, hB3⟩
end Go.Proofs.YtdgbililgkhjfaaDoor.Rs
namespace Go.Proofs.YtdgbililgkhjfaaDoor.Rs
open Go.RowKit Go.Proofs.YtdgbililgkhjfaaDoor.Crc Go.Proofs.YtdgbililgkhjfaaDoor.Codec Go.Proofs.YtdgbililgkhjfaaDoor.Pk Go.Proofs.YtdgbililgkhjfaaDoor.CrcWalk Go.Proofs.YtdgbililgkhjfaaDoor.Frame
open Go.Proofs.YtdgbililgkhjfaaDoor.Lk (L lc nS mayL far_blk range_below)
set_option linter.unusedVariables false
set_option linter.unusedSimpArgs false
def zc : Array Value := #[.pointer none, .int .i64 0, .int .u64 0, .bool false]
set_option maxRecDepth 100000 in
theorem nis (w : World) : Calls Tryd.prog 81 #[.pointer none] w fun r w' => r = .returned (.bool false) ∧ w = w' := by
  go_enter Tryd.func81, Tryd.ntmps81
  go_wp2
  go_ret
  exact ⟨rfl, rfl⟩
set_option maxRecDepth 100000 in
theorem zis (g : Nat) (w : World) (hb : Blk w g zc MT) : Calls Tryd.prog 81 #[.pointer (some ⟨g, 0, none⟩)] w fun r w' => r = .returned (.bool false) ∧ w = w' := by
  have c0 : w.cell? ⟨g, 0, none⟩ = some (.pointer none) := hb.cell _ rfl
  clear hb
  go_enter Tryd.func81, Tryd.ntmps81
  go_wp2
  go_ret
  exact ⟨rfl, rfl⟩
set_option maxRecDepth 100000 in
theorem nlink (w : World) : Calls Tryd.prog 44 #[.pointer none] w fun r w' => r = .returned (.pointer none) ∧ w = w' := by
  have HI := Lib.hid (fun V (h : w = V) => nis V)
  go_enter Tryd.func44, Tryd.ntmps44
  go_wp2_with fail
  refine (HI.out _ rfl).mono ?_
  rintro r w' ⟨rfl, rfl⟩
  go_wp2
  go_ret
  exact ⟨rfl, rfl⟩
set_option maxRecDepth 100000 in
theorem nstate (w : World) : Calls Tryd.prog 47 #[.pointer none] w fun r w' => r = .returned (.int .i64 0) ∧ w = w' := by
  have HI := Lib.hid (fun V (h : w = V) => nis V)
  go_enter Tryd.func47, Tryd.ntmps47
  go_wp2_with fail
  refine (HI.out _ rfl).mono ?_
  rintro r w' ⟨rfl, rfl⟩
  go_wp2
  go_ret
  exact ⟨rfl, rfl⟩
set_option maxRecDepth 100000 in
theorem nlook (c : Nat) (w : World) : Calls Tryd.prog 46 #[.pointer none, .int .u64 c] w fun r w' => r = .returned (.int .i64 0) ∧ w = w' := by
  have HI := Lib.hid (fun V (h : w = V) => nis V)
  go_enter Tryd.func46, Tryd.ntmps46
  go_wp2_with fail
  refine (HI.out _ rfl).mono ?_
  rintro r w' ⟨rfl, rfl⟩
  go_wp2
  go_ret
  exact ⟨rfl, rfl⟩
set_option maxRecDepth 100000 in
theorem zgoal (g : Nat) (w : World) (hb : Blk w g zc MT) : Calls Tryd.prog 50 #[.pointer (some ⟨g, 0, none⟩)] w fun r w' => r = .returned (.int .u64 0) ∧ w = w' := by
  have HI := Lib.hid (fun V (h : w = V) => zis g V (h ▸ hb))
  go_enter Tryd.func50, Tryd.ntmps50
  go_wp2_with fail
  refine (HI.out _ rfl).mono ?_
  rintro r w' ⟨rfl, rfl⟩
  go_wp2
  go_ret
  exact ⟨rfl, rfl⟩
set_option maxRecDepth 100000 in
theorem non (k : K) (vi vp : Value) (w : World) : Calls Tryd.prog 45 #[.pointer none, .agg (pc k vi vp)] w fun r w' => r = .returned (.int .i64 1) ∧ Below w.heap.size w w' := by
  have hB := bel_alloc w (.cells (pc k vi vp) PT)
  have HI := Lib.hid (nis (w.alloc (.cells (pc k vi vp) PT)))
  have HB := Lib.hid hB
  clear hB
  go_enter Tryd.func45, Tryd.ntmps45
  go_wp2_with fail
  go_step3
  go_wp2_with fail
  refine HI.out.mono ?_
  rintro r w' ⟨rfl, rfl⟩
  go_wp2
  try rw [Exit.noGoto_ret]
  go_ret
  exact ⟨rfl, HB.out⟩
set_option maxRecDepth 100000 in
theorem zon (k : K) (vi vp : Value) (g : Nat) (w : World) (hb : Blk w g zc MT) : Calls Tryd.prog 45 #[.pointer (some ⟨g, 0, none⟩), .agg (pc k vi vp)] w fun r w' => r = .returned (.int .i64 1) ∧ Below w.heap.size w w' := by
  have hB := bel_alloc w (.cells (pc k vi vp) PT)
  have HI := Lib.hid (zis g (w.alloc (.cells (pc k vi vp) PT)) (hb.alloc _))
  have HB := Lib.hid hB
  clear hB
  go_enter Tryd.func45, Tryd.ntmps45
  go_wp2_with fail
  go_step3
  go_wp2_with fail
  refine HI.out.mono ?_
  rintro r w' ⟨rfl, rfl⟩
  go_wp2
  try rw [Exit.noGoto_ret]
  go_ret
  exact ⟨rfl, HB.out⟩
set_option maxRecDepth 100000 in
theorem zout (now cn ow g : Nat) (w : World) (hb : Blk w g zc MT) : Calls Tryd.prog 51 #[.pointer (some ⟨g, 0, none⟩), .int .u64 now, .int .u64 cn, .int .u64 ow] w fun r w' => r = .returned (.slice none 0 0) ∧ Below w.heap.size w w' := by
  have hb1 : Blk ((((w.alloc (.cells #[.pointer (some ⟨g, 0, none⟩)] 76)).alloc (.cells #[.int .u64 cn] 22)).alloc (.cells #[.int .u64 ow] 22)).alloc (.cells #[.slice none 0 0] ST)) g zc MT := (((hb.alloc _).alloc _).alloc _).alloc _
  have hB1 : Below w.heap.size w ((((w.alloc (.cells #[.pointer (some ⟨g, 0, none⟩)] 76)).alloc (.cells #[.int .u64 cn] 22)).alloc (.cells #[.int .u64 ow] 22)).alloc (.cells #[.slice none 0 0] ST)) :=
    ((((Below.refl _ w).alloc (Nat.le_refl _) _).alloc (by simp) _).alloc (by simp; omega) _).alloc (by simp; omega) _
  have hx0 : Blk ((((w.alloc (.cells #[.pointer (some ⟨g, 0, none⟩)] 76)).alloc (.cells #[.int .u64 cn] 22)).alloc (.cells #[.int .u64 ow] 22)).alloc (.cells #[.slice none 0 0] ST)) w.heap.size #[.pointer (some ⟨g, 0, none⟩)] 76 := Blk.alloc (Blk.alloc (Blk.alloc (heap_alloc_new w _) _) _) _
  have hx3 : Blk ((((w.alloc (.cells #[.pointer (some ⟨g, 0, none⟩)] 76)).alloc (.cells #[.int .u64 cn] 22)).alloc (.cells #[.int .u64 ow] 22)).alloc (.cells #[.slice none 0 0] ST)) (w.heap.size + 1 + 1 + 1) #[.slice none 0 0] ST := by
    have e3 : (((w.alloc (.cells #[.pointer (some ⟨g, 0, none⟩)] 76)).alloc (.cells #[.int .u64 cn] 22)).alloc (.cells #[.int .u64 ow] 22)).heap.size = w.heap.size + 1 + 1 + 1 := by simp
    rw [← e3]; exact heap_alloc_new _ _
  have c0 := hx0.cell (off := 0) _ rfl
  have HI := Lib.hid (zis g _ hb1)
  clear hb hb1 hx0
  go_enter Tryd.func51, Tryd.ntmps51
  go_upto_region 1 with fail
  change Code.wp _ _ _ _ ((((w.alloc (.cells #[.pointer (some ⟨g, 0, none⟩)] 76)).alloc (.cells #[.int .u64 cn] 22)).alloc (.cells #[.int .u64 ow] 22)).alloc (.cells #[.slice none 0 0] ST))
  generalize ((((w.alloc (.cells #[.pointer (some ⟨g, 0, none⟩)] 76)).alloc (.cells #[.int .u64 cn] 22)).alloc (.cells #[.int .u64 ow] 22)).alloc (.cells #[.slice none 0 0] ST)) = w1 at *
  go_wp2_with fail
  refine HI.out.mono ?_
  rintro r w' ⟨rfl, rfl⟩
  have c3 := hx3.cell (off := 0) _ rfl
  have f3 : w1.frozen? ⟨w.heap.size + 1 + 1 + 1, 0, none⟩ = false := hx3.free
  have hb8 := hx3.set (off := 0) (.slice none 0 0)
  have c8 : (w1.setCell ⟨w.heap.size + 1 + 1 + 1, 0, none⟩ (.slice none 0 0)).cell? ⟨w.heap.size + 1 + 1 + 1, 0, none⟩ = some (.slice none 0 0) := hb8.cell _ rfl
  have HF := Lib.hid (hB1.setCell (p := ⟨w.heap.size + 1 + 1 + 1, 0, none⟩) (by show w.heap.size ≤ w.heap.size + 1 + 1 + 1; omega) (.slice none 0 0))
  clear hx3 hb8 hB1
  go_wp2
  exact bodyPost_ret (res_slice rfl _ _ (w.heap.size + 1 + 1 + 1) _ rfl c8) rfl ⟨rfl, HF.out⟩
/-- Two machines of the call's own, and the list that was told last. -/
structure Bo (w : World) (gm gl hm hl : Nat) (a b : M) (v : Value) (l : List K) (W : World) : Prop where
  p : Mb gm gl a W
  q : Mb hm hl b W
  bel : Below w.heap.size w W
  o1 : w.heap.size ≤ gm
  o2 : w.heap.size ≤ gl
  o3 : w.heap.size ≤ hm
  o4 : w.heap.size ≤ hl
  n1 : gm ≠ hm
  n2 : gm ≠ hl
  n3 : gl ≠ hm
  n4 : gl ≠ hl
  own : ∃ B, W.ownsRow B PT 11 v l.length (pks l) ∧ gm < B ∧ gl < B ∧ hm < B ∧ hl < B
theorem ownq {W W' : World} {B p q sz n : Nat} {e : TypeId} {v : Value} {xs : List Value} (h : W.ownsRow B e sz v n xs) (hk : Kq W.heap.size p q W W') (hp : p < B) (hq : q < B) : W'.ownsRow B e sz v n xs := by
  refine ⟨h.1, ?_⟩
  rcases h.2 with h5 | ⟨b, cap, cur, e1, hb1, hb, hrest⟩
  · exact .inl h5
  · exact .inr ⟨b, cap, cur, e1, hb1, (hk.block b (Array.getElem?_eq_some_iff.1 hb).1 (by omega) (by omega)).trans hb, hrest⟩
section
variable {w W W' : World} {gm gl hm hl : Nat} {a b : M} {v : Value} {l : List K}
theorem Bo.call (d : Bo w gm gl hm hl a b v l W) (hb : Below W.heap.size W W') : Bo w gm gl hm hl a b v l W' := by
  obtain ⟨B, h, h1, h2, h3, h4⟩ := d.own
  exact ⟨d.p.call hb, d.q.call hb, d.bel.trans (hb.mono d.bel.size), d.o1, d.o2, d.o3, d.o4, d.n1, d.n2, d.n3, d.n4, B, ownb h hb, h1, h2, h3, h4⟩
theorem Bo.atA {a' : M} (d : Bo w gm gl hm hl a b v l W) (hp : Mb gm gl a' W') (hk : Kq W.heap.size gm gl W W') : Bo w gm gl hm hl a' b v l W' := by
  obtain ⟨B, h, h1, h2, h3, h4⟩ := d.own
  exact ⟨hp, ⟨Kq.blk hk d.q.a d.q.a.lt d.n1.symm d.n3.symm, Kq.blk hk d.q.b d.q.b.lt d.n2.symm d.n4.symm, d.q.ne⟩, d.bel.trans (Kq.bel hk d.bel.size d.o1 d.o2), d.o1, d.o2, d.o3, d.o4, d.n1, d.n2, d.n3, d.n4, B, ownq h hk h1 h2, h1, h2, h3, h4⟩
theorem Bo.atB {b' : M} (d : Bo w gm gl hm hl a b v l W) (hq : Mb hm hl b' W') (hk : Kq W.heap.size hm hl W W') : Bo w gm gl hm hl a b' v l W' := by
  obtain ⟨B, h, h1, h2, h3, h4⟩ := d.own
  exact ⟨⟨Kq.blk hk d.p.a d.p.a.lt d.n1 d.n2, Kq.blk hk d.p.b d.p.b.lt d.n3 d.n4, d.p.ne⟩, hq, d.bel.trans (Kq.bel hk d.bel.size d.o3 d.o4), d.o1, d.o2, d.o3, d.o4, d.n1, d.n2, d.n3, d.n4, B, ownq h hk h3 h4, h1, h2, h3, h4⟩
theorem Bo.list {v' : Value} {l' : List K} {B : Nat} (d : Bo w gm gl hm hl a b v l W) (ho : W.ownsRow B PT 11 v' l'.length (pks l')) (h1 : gm < B) (h2 : gl < B) (h3 : hm < B) (h4 : hl < B) : Bo w gm gl hm hl a b v' l' W :=
  ⟨d.p, d.q, d.bel, d.o1, d.o2, d.o3, d.o4, d.n1, d.n2, d.n3, d.n4, B, ho, h1, h2, h3, h4⟩
theorem bo_outA (d : Bo w gm gl hm hl a b v l W) (now cn ow : Nat) (hw : a.wf) (h1 : now < 18446744073709551616) (h2 : cn < 18446744073709551616) (h3 : ow < 18446744073709551616) (ks : List K) (hks : a.out now cn ow = ks) :
    Calls Tryd.prog 51 #[.pointer (some ⟨gm, 0, none⟩), .int .u64 now, .int .u64 cn, .int .u64 ow] W fun r W' => ∃ v', r = .returned v' ∧ Bo w gm gl hm hl (a.outs now) b v' ks W' := by
  subst hks
  refine (out_any a now cn ow gm gl W d.p hw h1 h2 h3).mono ?_
  rintro r W' ⟨v', rfl, hp, hown, hk⟩
  have e1 := d.p.a.lt
  have e2 := d.p.b.lt
  have e3 := d.q.a.lt
  have e4 := d.q.b.lt
  exact ⟨v', rfl, (d.atA hp hk).list hown (by omega) (by omega) (by omega) (by omega)⟩
theorem bo_outB (d : Bo w gm gl hm hl a b v l W) (now cn ow : Nat) (hw : b.wf) (h1 : now < 18446744073709551616) (h2 : cn < 18446744073709551616) (h3 : ow < 18446744073709551616) (ks : List K) (hks : b.out now cn ow = ks) :
    Calls Tryd.prog 51 #[.pointer (some ⟨hm, 0, none⟩), .int .u64 now, .int .u64 cn, .int .u64 ow] W fun r W' => ∃ v', r = .returned v' ∧ Bo w gm gl hm hl a (b.outs now) v' ks W' := by
  subst hks
  refine (out_any b now cn ow hm hl W d.q hw h1 h2 h3).mono ?_
  rintro r W' ⟨v', rfl, hp, hown, hk⟩
  have e1 := d.p.a.lt
  have e2 := d.p.b.lt
  have e3 := d.q.a.lt
  have e4 := d.q.b.lt
  exact ⟨v', rfl, (d.atB hp hk).list hown (by omega) (by omega) (by omega) (by omega)⟩
theorem bo_onA (d : Bo w gm gl hm hl a b v l W) (k : K) (hw : a.wf) (hk : k.wf) (hi : k.ins = []) (hp : k.prs = []) (hT : Tab w) :
    Calls Tryd.prog 45 #[.pointer (some ⟨gm, 0, none⟩), .agg (pc k nS nS)] W fun r W' => r = .returned (.int .i64 (a.on k).2) ∧ Bo w gm gl hm hl (a.on k).1 b v l W' := by
  refine (mon_any a k nS nS gm gl W d.p hw hk (fun V q => by rw [hi]; exact ins_nil _) (fun V q => by rw [hp]; exact prs_nil _) (fun V q => tab_below hT (d.bel.trans (Kq.bel q d.bel.size d.o1 d.o2)))).mono ?_
  rintro r W' ⟨rfl, hb, hk⟩
  exact ⟨rfl, d.atA hb hk⟩
theorem bo_onB (d : Bo w gm gl hm hl a b v l W) (k : K) (hw : b.wf) (hk : k.wf) (hi : k.ins = []) (hp : k.prs = []) (hT : Tab w) :
    Calls Tryd.prog 45 #[.pointer (some ⟨hm, 0, none⟩), .agg (pc k nS nS)] W fun r W' => r = .returned (.int .i64 (b.on k).2) ∧ Bo w gm gl hm hl a (b.on k).1 v l W' := by
  refine (mon_any b k nS nS hm hl W d.q hw hk (fun V q => by rw [hi]; exact ins_nil _) (fun V q => by rw [hp]; exact prs_nil _) (fun V q => tab_below hT (d.bel.trans (Kq.bel q d.bel.size d.o3 d.o4)))).mono ?_
  rintro r W' ⟨rfl, hb, hk⟩
  exact ⟨rfl, d.atB hb hk⟩
theorem bo_lookA (d : Bo w gm gl hm hl a b v l W) (c : Nat) :
    Calls Tryd.prog 46 #[.pointer (some ⟨gm, 0, none⟩), .int .u64 c] W fun r W' => r = .returned (.int .i64 (a.look c).st) ∧ Bo w gm gl hm hl (a.look c) b v l W' := by
  refine (mlook_any a c gm gl W d.p).mono ?_
  rintro r W' ⟨rfl, hb, hk⟩
  exact ⟨rfl, d.atA hb (kq_kp' hk)⟩
theorem bo_lookB (d : Bo w gm gl hm hl a b v l W) (c : Nat) :
    Calls Tryd.prog 46 #[.pointer (some ⟨hm, 0, none⟩), .int .u64 c] W fun r W' => r = .returned (.int .i64 (b.look c).st) ∧ Bo w gm gl hm hl a (b.look c) v l W' := by
  refine (mlook_any b c hm hl W d.q).mono ?_
  rintro r W' ⟨rfl, hb, hk⟩
  exact ⟨rfl, d.atB hb (kq_kp' hk)⟩
theorem Bo.row (d : Bo w gm gl hm hl a b v l W) (i : Nat) (h : i < l.length) : ∃ g c, v = .slice (some ⟨g, 0, none⟩) l.length c ∧ W.rangeAt g (i * 11) (pc l[i] nS nS).toList := by
  obtain ⟨B, ho, _⟩ := d.own
  obtain ⟨b, c, hv, hc⟩ := Pks.of_own ho
  obtain ⟨g, hb, _, hr⟩ := hc i h
  exact ⟨g, c, by rw [hv, hb], hr⟩
theorem Bo.pks (d : Bo w gm gl hm hl a b v l W) : Pks W v l := by
  obtain ⟨B, ho, _⟩ := d.own
  exact Pks.of_own ho
end
end Go.Proofs.YtdgbililgkhjfaaDoor.Rs
namespace Go.Proofs.YtdgbililgkhjfaaDoor.Rs
open Go.RowKit Go.Proofs.YtdgbililgkhjfaaDoor.Crc Go.Proofs.YtdgbililgkhjfaaDoor.Codec Go.Proofs.YtdgbililgkhjfaaDoor.Pk Go.Proofs.YtdgbililgkhjfaaDoor.CrcWalk Go.Proofs.YtdgbililgkhjfaaDoor.Frame
open Go.Proofs.YtdgbililgkhjfaaDoor.Lk (L lc nS mayL far_blk range_below)
set_option linter.unusedVariables false
set_option linter.unusedSimpArgs false
def ty0 : K := ⟨2, 1, 5, 2, 9, 9, 0, [], [], 0, 0⟩
def ty1 : K := ⟨1, 1, 5, 2, 9, 9, 0, [], [], 0, 0⟩
def tz0 : K := ⟨2, 0, 2, 5, 9, 9, 0, [], [], 0, 0⟩
def th6 : K := ⟨1, 1, 6, 0, 0, 0, 0, [], [], 0, 0⟩
def th5 : K := ⟨1, 1, 5, 0, 0, 0, 0, [], [], 0, 0⟩
def ka0 : M := M.make 0 2 1
def kb0 : M := M.make 1 5 1
def ka1 : M := ka0.outs 1
def kb1 : M := (kb0.on tk1).1
def kb2 : M := kb1.outs 1
def ka2 : M := (ka1.on ty0).1
def ka3 : M := ka2.look 8
def ka4 : M := ka3.look 9
def ka5 : M := (ka4.on ty1).1
def ka6 : M := ka5.outs 2
def kb3 : M := (kb2.on tz0).1
def kb4 : M := kb3.outs 9
def ka7 : M := (ka6.on th6).1
def ka8 : M := (ka7.on th5).1
theorem tk1_wf : tk1.wf := by constructor <;> decide
theorem ty0_wf : ty0.wf := by constructor <;> decide
theorem ty1_wf : ty1.wf := by constructor <;> decide
theorem tz0_wf : tz0.wf := by constructor <;> decide
theorem th6_wf : th6.wf := by constructor <;> decide
theorem th5_wf : th5.wf := by constructor <;> decide
theorem ka0_wf : ka0.wf := M.make_wf (by decide) (by decide) (by decide) (by decide)
theorem kb0_wf : kb0.wf := M.make_wf (by decide) (by decide) (by decide) (by decide)
theorem ka1_wf : ka1.wf := M.outs_wf ka0_wf (by decide)
theorem kb1_wf : kb1.wf := M.on_wf kb0_wf tk1_wf
theorem kb2_wf : kb2.wf := M.outs_wf kb1_wf (by decide)
theorem ka2_wf : ka2.wf := M.on_wf ka1_wf ty0_wf
theorem ka3_wf : ka3.wf := M.look_wf ka2_wf
theorem ka4_wf : ka4.wf := M.look_wf ka3_wf
theorem ka5_wf : ka5.wf := M.on_wf ka4_wf ty1_wf
theorem ka6_wf : ka6.wf := M.outs_wf ka5_wf (by decide)
theorem kb3_wf : kb3.wf := M.on_wf kb2_wf tz0_wf
theorem kb4_wf : kb4.wf := M.outs_wf kb3_wf (by decide)
theorem ka7_wf : ka7.wf := M.on_wf ka6_wf th6_wf
theorem ef1 : ka0.out 1 3 4 = [tk1] := by decide
theorem ef2 : (kb0.on tk1).2 = 0 := by decide
theorem ef3 : kb1.st = 1 := by decide
theorem ef4 : kb1.out 1 9 9 = [ty0, ty1] := by decide
theorem ef5 : (ka1.on ty0).2 = 0 := by decide
theorem ef6 : ka2.st = 2 := by decide
theorem ef7 : ka2.goal = 9 := by decide
theorem ef8 : ka3.st = 2 := by decide
theorem ef9 : ka4.st = 3 := by decide
theorem ef10 : (ka4.on ty1).2 = 0 := by decide
theorem ef11 : ka5.st = 3 := by decide
theorem ef12 : ka5.out 2 9 8 = [tz0] := by decide
theorem ef13 : (kb2.on tz0).2 = 0 := by decide
theorem ef14 : kb3.st = 2 := by decide
theorem ef15 : kb3.goal = 9 := by decide
theorem ef16 : kb3.out 9 9 9 = [] := by decide
theorem ef17 : (ka6.on th6).2 = 0 := by decide
theorem ef18 : ka7.st = 1 := by decide
theorem ef19 : (ka7.on th5).2 = 12 := by decide
theorem bo_start {w w1 w2 : World} {gm gl hm hl : Nat} {a b : M} (hp : Mb gm gl a w1) (hb1 : Below w.heap.size w w1) (h1 : w.heap.size ≤ gm) (h2 : w.heap.size ≤ gl) (hq : Mb hm hl b w2) (hb2 : Below w1.heap.size w1 w2) (h3 : w1.heap.size ≤ hm) (h4 : w1.heap.size ≤ hl) : Bo w gm gl hm hl a b nS [] w2 := by
  have e1 := hp.a.lt
  have e2 := hp.b.lt
  have e3 := hq.a.lt
  have e4 := hq.b.lt
  have e5 := hb1.size
  have e6 := hb2.size
  exact ⟨hp.call hb2, hq, hb1.trans (hb2.mono e5), h1, h2, by omega, by omega, by omega, by omega, by omega, by omega, w2.heap.size, World.ownsRow_nil w2 _ _ 11, by omega, by omega, by omega, by omega⟩
theorem Bo.at {w W : World} {gm gl hm hl g n c : Nat} {a b : M} {l : List K} (d : Bo w gm gl hm hl a b (.slice (some ⟨g, 0, none⟩) n c) l W) (i : Nat) (h : i < l.length) : W.rangeAt g (i * 11) (pc l[i] nS nS).toList := by
  obtain ⟨g', c', e, hr⟩ := d.row i h
  injection e with e1 e2 e3
  injection e1 with e4
  injection e4 with e5
  rw [e5]; exact hr
set_option maxRecDepth 100000 in
set_option maxHeartbeats 16000000 in
/-- The law ResumeKnown. -/
theorem known_law (w : World) (hT : Tab w) :
    Calls Tryd.prog 14 #[] w fun r w' => r = .returned (.bool true) ∧ Below w.heap.size w w' := by
  have HN0 := Lib.hid (fun W => mnew_yes 0 2 1 W (by decide) (by decide))
  have HN1 := Lib.hid (fun W => mnew_yes 1 5 1 W (by decide) (by decide))
  have HN2 := Lib.hid (fun W => mnew_no 2 1 1 W (by decide))
  have G1 := Lib.hid (fun gm gl hm hl v W (d : Bo w gm gl hm hl ka0 kb0 v [] W) => bo_outA d 1 3 4 ka0_wf (by decide) (by decide) (by decide) [tk1] ef1)
  have G2 := Lib.hid (fun gm gl hm hl v W (d : Bo w gm gl hm hl ka1 kb0 v [tk1] W) => bo_onB d tk1 kb0_wf tk1_wf rfl rfl hT)
  rw [ef2] at G2
  have G3 := Lib.hid (fun gm gl hm hl v W (d : Bo w gm gl hm hl ka1 kb1 v [tk1] W) => mstate_any _ hm hl W d.q)
  rw [ef3] at G3
  have G4 := Lib.hid (fun gm gl hm hl v W (d : Bo w gm gl hm hl ka1 kb1 v [tk1] W) => bo_outB d 1 9 9 kb1_wf (by decide) (by decide) (by decide) [ty0, ty1] ef4)
  have G5 := Lib.hid (fun W => same_any ty0 ty0 nS nS nS nS W (ins_nil _) (prs_nil _) (ins_nil _) (prs_nil _))
  rw [decide_eq_true rfl] at G5
  have G6 := Lib.hid (fun gm gl hm hl v W (d : Bo w gm gl hm hl ka1 kb2 v [ty0, ty1] W) => bo_onA d ty0 ka1_wf ty0_wf rfl rfl hT)
  rw [ef5] at G6
  have G7 := Lib.hid (fun gm gl hm hl v W (d : Bo w gm gl hm hl ka2 kb2 v [ty0, ty1] W) => mstate_any _ gm gl W d.p)
  rw [ef6] at G7
  have G8 := Lib.hid (fun gm gl hm hl v W (d : Bo w gm gl hm hl ka2 kb2 v [ty0, ty1] W) => mgoal_any _ gm gl W d.p)
  rw [ef7] at G8
  have G9 := Lib.hid (fun gm gl hm hl v W (d : Bo w gm gl hm hl ka2 kb2 v [ty0, ty1] W) => bo_lookA d 8)
  rw [show (ka2.look 8).st = 2 from ef8] at G9
  have G10 := Lib.hid (fun gm gl hm hl v W (d : Bo w gm gl hm hl ka3 kb2 v [ty0, ty1] W) => bo_lookA d 9)
  rw [show (ka3.look 9).st = 3 from ef9] at G10
  have G11 := Lib.hid (fun gm gl hm hl v W (d : Bo w gm gl hm hl ka4 kb2 v [ty0, ty1] W) => bo_onA d ty1 ka4_wf ty1_wf rfl rfl hT)
  rw [ef10] at G11
  have G12 := Lib.hid (fun gm gl hm hl v W (d : Bo w gm gl hm hl ka5 kb2 v [ty0, ty1] W) => mstate_any _ gm gl W d.p)
  rw [ef11] at G12
  have G13 := Lib.hid (fun gm gl hm hl v W (d : Bo w gm gl hm hl ka5 kb2 v [ty0, ty1] W) => bo_outA d 2 9 8 ka5_wf (by decide) (by decide) (by decide) [tz0] ef12)
  have G14 := Lib.hid (fun gm gl hm hl v W (d : Bo w gm gl hm hl ka6 kb2 v [tz0] W) => bo_onB d tz0 kb2_wf tz0_wf rfl rfl hT)
  rw [ef13] at G14
  have G15 := Lib.hid (fun gm gl hm hl v W (d : Bo w gm gl hm hl ka6 kb3 v [tz0] W) => mstate_any _ hm hl W d.q)
  rw [ef14] at G15
  have G16 := Lib.hid (fun gm gl hm hl v W (d : Bo w gm gl hm hl ka6 kb3 v [tz0] W) => mgoal_any _ hm hl W d.q)
  rw [ef15] at G16
  have G17 := Lib.hid (fun gm gl hm hl v W (d : Bo w gm gl hm hl ka6 kb3 v [tz0] W) => bo_outB d 9 9 9 kb3_wf (by decide) (by decide) (by decide) [] ef16)
  have G18 := Lib.hid (fun gm gl hm hl v W (d : Bo w gm gl hm hl ka6 kb4 v [] W) => bo_onA d th6 ka6_wf th6_wf rfl rfl hT)
  rw [ef17] at G18
  have G19 := Lib.hid (fun gm gl hm hl v W (d : Bo w gm gl hm hl ka7 kb4 v [] W) => mstate_any _ gm gl W d.p)
  rw [ef18] at G19
  have G20 := Lib.hid (fun gm gl hm hl v W (d : Bo w gm gl hm hl ka7 kb4 v [] W) => bo_onA d th5 ka7_wf th5_wf rfl rfl hT)
  rw [ef19] at G20
  have Z1 := Lib.hid (fun W => nlink W)
  have Z2 := Lib.hid (fun W => nstate W)
  have Z5 := Lib.hid (fun W => nlook 5 W)
  have Z4 := Lib.hid (fun W => non K.zero nS nS W)
  have Z8 := Lib.hid (fun W => awake_any W)
  have Z3 := Lib.hid (fun g W (h : Blk W g zc MT) => zgoal g W h)
  have Z6 := Lib.hid (fun g W (h : Blk W g zc MT) => zon K.zero nS nS g W h)
  have Z7 := Lib.hid (fun g W (h : Blk W g zc MT) => zout 1 1 1 g W h)
  clear hT
  go_enter Tryd.func14, Tryd.ntmps14
  go_wp2_with fail
  refine (HN0.out _).mono ?_
  rintro r w1 ⟨gm, gl, rfl, hb, hbel, h1, h2⟩
  have HP := Lib.hid (show Mb gm gl ka0 w1 ∧ Below w.heap.size w w1 ∧ w.heap.size ≤ gm ∧ w.heap.size ≤ gl from ⟨hb, hbel, h1, h2⟩)
  clear hb hbel h1 h2
  go_wp2_with fail
  refine (HN1.out _).mono ?_
  rintro r w2 ⟨hm, hl, rfl, hb, hbel, h1, h2⟩
  have D := Lib.hid (show Bo w gm gl hm hl ka0 kb0 nS [] w2 from bo_start HP.out.1 HP.out.2.1 HP.out.2.2.1 HP.out.2.2.2 hb hbel h1 h2)
  clear hb hbel h1 h2 HP HN0 HN1
  go_wp2_with fail
  refine (G1.out _ _ _ _ _ _ D.out).mono ?_
  rintro r w3 ⟨v, rfl, d⟩
  obtain ⟨g, cg, rfl, _⟩ := d.row 0 (by decide)
  clear D
  have D := Lib.hid d
  clear d G1
  have hn : Blk (w3.alloc (.cells #[.int .i64 1] 3)) w3.heap.size #[.int .i64 1] 3 := heap_alloc_new w3 _
  have HTL := Lib.hid (told_any _ [tk1] [1] w3.heap.size 1 _ (D.out.pks.below (bel_alloc w3 (.cells #[.int .i64 1] 3))) (fun i hi => by
    have hi2 : i < 1 := hi
    rcases (show i = 0 by omega) with rfl
    all_goals exact hn.cell _ rfl) (by decide) hn.lt)
  rw [show decide ([tk1].map (·.kind) = [1]) = true by decide] at HTL
  have HD := Lib.hid (D.out.call (bel_alloc w3 (.cells #[.int .i64 1] 3)))
  clear D hn
  go_wp2_with fail
  refine HTL.out.mono ?_
  rintro r w4 ⟨rfl, hb⟩
  have D := Lib.hid (HD.out.call hb)
  clear hb HTL HD
  have hr : w4.rangeAt g 0 (pc tk1 nS nS).toList := D.out.at 0 (by decide)
  go_wp2_with (refine load_pk_midg (.tmp 25) g 0 tk1 nS nS hr rfl rfl rfl ?_)
  refine (G2.out _ _ _ _ _ _ D.out).mono ?_
  rintro r w5 ⟨rfl, d⟩
  clear D
  have D := Lib.hid d
  clear d G2
  clear hr
  go_wp2_with fail
  refine (G3.out _ _ _ _ _ _ D.out).mono ?_
  rintro r w' ⟨rfl, rfl⟩
  clear G3
  go_wp2_with fail
  refine (G4.out _ _ _ _ _ _ D.out).mono ?_
  rintro r w6 ⟨v, rfl, d⟩
  obtain ⟨g2, cg2, rfl, _⟩ := d.row 0 (by decide)
  clear D
  have D := Lib.hid d
  clear d G4
  have hn : Blk (w6.alloc (.cells #[.int .i64 2, .int .i64 1] 3)) w6.heap.size #[.int .i64 2, .int .i64 1] 3 := heap_alloc_new w6 _
  have HTL := Lib.hid (told_any _ [ty0, ty1] [2, 1] w6.heap.size 2 _ (D.out.pks.below (bel_alloc w6 (.cells #[.int .i64 2, .int .i64 1] 3))) (fun i hi => by
    have hi2 : i < 2 := hi
    rcases (show i = 0 ∨ i = 1 by omega) with rfl | rfl
    all_goals exact hn.cell _ rfl) (by decide) hn.lt)
  rw [show decide ([ty0, ty1].map (·.kind) = [2, 1]) = true by decide] at HTL
  have HD := Lib.hid (D.out.call (bel_alloc w6 (.cells #[.int .i64 2, .int .i64 1] 3)))
  clear D hn
  go_wp2_with fail
  refine HTL.out.mono ?_
  rintro r w7 ⟨rfl, hb⟩
  have D := Lib.hid (HD.out.call hb)
  clear hb HTL HD
  have hr : w7.rangeAt g2 0 (pc ty0 nS nS).toList := D.out.at 0 (by decide)
  go_wp2_with (refine load_pk_midg (.tmp 43) g2 0 ty0 nS nS hr rfl rfl rfl ?_)
  refine (G5.out _).mono ?_
  rintro r w8 ⟨rfl, hb⟩
  have d := D.out.call hb
  clear D hr hb G5
  have D := Lib.hid d
  clear d
  have hr : w8.rangeAt g2 0 (pc ty0 nS nS).toList := D.out.at 0 (by decide)
  go_wp2_with (refine load_pk_midg (.tmp 52) g2 0 ty0 nS nS hr rfl rfl rfl ?_)
  refine (G6.out _ _ _ _ _ _ D.out).mono ?_
  rintro r w9 ⟨rfl, d⟩
  clear D
  have D := Lib.hid d
  clear d G6
  clear hr
  go_wp2_with fail
  refine (G7.out _ _ _ _ _ _ D.out).mono ?_
  rintro r w' ⟨rfl, rfl⟩
  clear G7
  go_wp2_with fail
  refine (G8.out _ _ _ _ _ _ D.out).mono ?_
  rintro r w' ⟨rfl, rfl⟩
  clear G8
  go_wp2_with fail
  refine (G9.out _ _ _ _ _ _ D.out).mono ?_
  rintro r w10 ⟨rfl, d⟩
  clear D
  have D := Lib.hid d
  clear d G9
  go_wp2_with fail
  refine (G10.out _ _ _ _ _ _ D.out).mono ?_
  rintro r w11 ⟨rfl, d⟩
  clear D
  have D := Lib.hid d
  clear d G10
  have hr : w11.rangeAt g2 11 (pc ty1 nS nS).toList := D.out.at 1 (by decide)
  go_wp2_with (refine load_pk_midg (.tmp 80) g2 11 ty1 nS nS hr rfl rfl rfl ?_)
  refine (G11.out _ _ _ _ _ _ D.out).mono ?_
  rintro r w12 ⟨rfl, d⟩
  clear D
  have D := Lib.hid d
  clear d G11
  clear hr
  go_wp2_with fail
  refine (G12.out _ _ _ _ _ _ D.out).mono ?_
  rintro r w' ⟨rfl, rfl⟩
  clear G12
  go_wp2_with fail
  refine (G13.out _ _ _ _ _ _ D.out).mono ?_
  rintro r w13 ⟨v, rfl, d⟩
  obtain ⟨g3, cg3, rfl, _⟩ := d.row 0 (by decide)
  clear D
  have D := Lib.hid d
  clear d G13
  have hn : Blk (w13.alloc (.cells #[.int .i64 2] 3)) w13.heap.size #[.int .i64 2] 3 := heap_alloc_new w13 _
  have HTL := Lib.hid (told_any _ [tz0] [2] w13.heap.size 1 _ (D.out.pks.below (bel_alloc w13 (.cells #[.int .i64 2] 3))) (fun i hi => by
    have hi2 : i < 1 := hi
    rcases (show i = 0 by omega) with rfl
    all_goals exact hn.cell _ rfl) (by decide) hn.lt)
  rw [show decide ([tz0].map (·.kind) = [2]) = true by decide] at HTL
  have HD := Lib.hid (D.out.call (bel_alloc w13 (.cells #[.int .i64 2] 3)))
  clear D hn
  go_wp2_with fail
  refine HTL.out.mono ?_
  rintro r w14 ⟨rfl, hb⟩
  have D := Lib.hid (HD.out.call hb)
  clear hb HTL HD
  have hr : w14.rangeAt g3 0 (pc tz0 nS nS).toList := D.out.at 0 (by decide)
  have cl5 : w14.cell? ⟨g3, 5, none⟩ = some (.int .u64 9) := hr 5 _ rfl
  have cl3 : w14.cell? ⟨g3, 3, none⟩ = some (.int .u64 5) := hr 3 _ rfl
  go_wp2_with (refine load_pk_midg (.tmp 113) g3 0 tz0 nS nS hr rfl rfl rfl ?_)
  refine (G14.out _ _ _ _ _ _ D.out).mono ?_
  rintro r w15 ⟨rfl, d⟩
  clear D
  have D := Lib.hid d
  clear d G14
  clear hr cl5 cl3
  go_wp2_with fail
  refine (G15.out _ _ _ _ _ _ D.out).mono ?_
  rintro r w' ⟨rfl, rfl⟩
  clear G15
  go_wp2_with fail
  refine (G16.out _ _ _ _ _ _ D.out).mono ?_
  rintro r w' ⟨rfl, rfl⟩
  clear G16
  go_wp2_with fail
  refine (G17.out _ _ _ _ _ _ D.out).mono ?_
  rintro r w16 ⟨v, rfl, d⟩
  obtain ⟨_, hown, _⟩ := id d.own
  obtain ⟨bg4, cg4, rfl⟩ := own_len hown
  clear hown
  clear D
  have D := Lib.hid d
  clear d G17
  go_wp2_with fail
  refine (G18.out _ _ _ _ _ _ D.out).mono ?_
  rintro r w17 ⟨rfl, d⟩
  clear D
  have D := Lib.hid d
  clear d G18
  go_wp2_with fail
  refine (G19.out _ _ _ _ _ _ D.out).mono ?_
  rintro r w' ⟨rfl, rfl⟩
  clear G19
  go_wp2_with fail
  refine (G20.out _ _ _ _ _ _ D.out).mono ?_
  rintro r w18 ⟨rfl, d⟩
  clear D
  have D := Lib.hid d
  clear d G20
  have hB : Below w.heap.size w w18 := D.out.bel
  clear D
  have hz : Blk (w18.alloc (.cells zc MT)) w18.heap.size zc MT := heap_alloc_new w18 _
  have hB1 : Below w.heap.size w (w18.alloc (.cells zc MT)) := hB.alloc hB.size _
  have HZ := Lib.hid (show Blk (w18.alloc (.cells zc MT)) w18.heap.size zc MT ∧ Below w.heap.size w (w18.alloc (.cells zc MT)) from ⟨hz, hB1⟩)
  clear hB hz hB1
  go_wp2_with fail
  refine (HN2.out _).mono ?_
  rintro r w' ⟨rfl, rfl⟩
  go_wp2_with fail
  refine (Z1.out _).mono ?_
  rintro r w' ⟨rfl, rfl⟩
  go_wp2_with fail
  refine (Z2.out _).mono ?_
  rintro r w' ⟨rfl, rfl⟩
  go_wp2_with fail
  refine (Z3.out _ _ HZ.out.1).mono ?_
  rintro r w' ⟨rfl, rfl⟩
  go_wp2_with fail
  refine (Z4.out _).mono ?_
  rintro r w19 ⟨rfl, hb⟩
  have HY := Lib.hid (show Blk w19 w18.heap.size zc MT ∧ Below w.heap.size w w19 from ⟨(hb.block _ HZ.out.1.lt).trans HZ.out.1, HZ.out.2.trans (hb.mono HZ.out.2.size)⟩)
  clear hb HZ
  have HZ := HY
  clear HY
  go_wp2_with fail
  refine (Z6.out _ _ HZ.out.1).mono ?_
  rintro r w20 ⟨rfl, hb⟩
  have HY := Lib.hid (show Blk w20 w18.heap.size zc MT ∧ Below w.heap.size w w20 from ⟨(hb.block _ HZ.out.1.lt).trans HZ.out.1, HZ.out.2.trans (hb.mono HZ.out.2.size)⟩)
  clear hb HZ
  have HZ := HY
  clear HY
  go_wp2_with fail
  refine (Z5.out _).mono ?_
  rintro r w' ⟨rfl, rfl⟩
  go_wp2_with fail
  refine (Z7.out _ _ HZ.out.1).mono ?_
  rintro r w21 ⟨rfl, hb⟩
  have HY := Lib.hid (show Blk w21 w18.heap.size zc MT ∧ Below w.heap.size w w21 from ⟨(hb.block _ HZ.out.1.lt).trans HZ.out.1, HZ.out.2.trans (hb.mono HZ.out.2.size)⟩)
  clear hb HZ
  have HZ := HY
  clear HY
  go_wp2_with fail
  refine (Z8.out _).mono ?_
  rintro r w22 ⟨rfl, hb⟩
  have HY := Lib.hid (show Blk w22 w18.heap.size zc MT ∧ Below w.heap.size w w22 from ⟨(hb.block _ HZ.out.1.lt).trans HZ.out.1, HZ.out.2.trans (hb.mono HZ.out.2.size)⟩)
  clear hb HZ
  have HZ := HY
  clear HY
  go_wp2
  go_ret
  exact ⟨rfl, HZ.out.2⟩
end Go.Proofs.YtdgbililgkhjfaaDoor.Rs
