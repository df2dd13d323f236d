/- What 'Take' answers: walked. Conditions: the size, the table. -/
import Derived.Test.YtdgbililgkhjfaaDoorPkJ
import Derived.Test.YtdgbililgkhjfaaDoorPkM
import Derived.Test.YtdgbililgkhjfaaDoorPkSIa
import Derived.Test.YtdgbililgkhjfaaDoorPkSIb
import Derived.Great.BuildSlice
import Derived.Laws.CopyOwn
namespace Go.Proofs.YtdgbililgkhjfaaDoor.Pk
open Go.RowKit Go.Proofs.YtdgbililgkhjfaaDoor.Crc Go.Proofs.YtdgbililgkhjfaaDoor.Codec Go.Proofs.YtdgbililgkhjfaaDoor.CrcWalk Go.Proofs.YtdgbililgkhjfaaDoor.Frame
set_option linter.unusedVariables false
theorem sksI : Sks 67 144 145 := ⟨sk0I, sk1I, sk2I, sk3zI, sk3I, sk4zI, sk4I, sk5I⟩
theorem Below.trodK {B : Nat} {a w w' : World} {p q C : Nat} (h : Below B a w) (hk : Kq C p q w w') (h1 : B ≤ C) (hp : B ≤ p) (hq : B ≤ q) : Below B a w' :=
  h.trans ⟨hk.os, hk.tape, hk.output, hk.size, fun k hkB => hk.block k (by omega) (by omega) (by omega)⟩
set_option maxRecDepth 100000 in
theorem err_any (p : Nat) (s : ByteArray) (e : Int) (w : World) (hr : Rd w p s e) :
    Calls Tryd.prog 68 #[.pointer (some ⟨p, 0, none⟩)] w fun r w' => r = .returned (.int .i64 e) ∧ w = w' := by
  obtain ⟨c0, c1, f0, f1⟩ := hr.cells
  go_enter Tryd.func68, Tryd.ntmps68
  go_wp2
  go_ret
  exact ⟨rfl, rfl⟩
/-- A packet's cells, of any two slices. -/
structure Sl (vi vp : Value) : Prop where
  i : vi.oneCell' = true
  p : vp.oneCell' = true
theorem sl_of {w : World} {vi vp : Value} {l : List UInt8} {m : List (UInt8 × UInt8)} (h : Ins w vi l) (h' : Prs w vp m) : Sl vi vp := by
  obtain ⟨b, c, rfl, _⟩ := h
  obtain ⟨b', c', rfl, _⟩ := h'
  exact ⟨rfl, rfl⟩
theorem pc_all (k : K) {vi vp : Value} (h : Sl vi vp) : (pc k vi vp).all (·.oneCell') = true := by
  simp [pc, h.i, h.p]
  simp [Value.oneCell']
theorem pc_info (k : K) (vi vp : Value) : (Tryd.prog.info? 26).map (·.size) = some (pc k vi vp).size := by kernel_rfl
/-- A whole packet is stored. -/
theorem store_pk {ops : Array Oper} {rest : List Oper} {op : Oper} {a : Act} {w : World} {Q : Exit → Act → World → Prop} (x y : Operand) (g : Nat) (k0 k : K) (vi0 vp0 vi vp : Value) (hs : Sl vi vp) (hb : Blk w g (pc k0 vi0 vp0) 26) (hgd : op.guard = none) (ho : op.op = .store 26 x y)
    (hd : op.dst = none) (hx : a.eval x = .pointer (some ⟨g, 0, none⟩)) (hy : a.eval y = .agg (pc k vi vp)) (h : wpList Tryd.prog ops Q rest a (w.setRow g (pc k vi vp))) : wpList Tryd.prog ops Q (op :: rest) a w :=
  wpList_store_rowTo hgd 26 x y ho hd g (pc k vi vp) hx hy 26 (pc k0 vi0 vp0) hb (pc_info k vi vp) rfl (pc_all k hs) h
/-- A whole packet is read. -/
theorem load_pk {ops : Array Oper} {rest : List Oper} {op : Oper} {a : Act} {w : World} {Q : Exit → Act → World → Prop} (x : Operand) (g : Nat) (k : K) (vi vp : Value) (hb : Blk w g (pc k vi vp) 26) (hgd : op.guard = none) (ho : op.op = .load 26 x)
    (hx : a.eval x = .pointer (some ⟨g, 0, none⟩)) (h : wpList Tryd.prog ops Q rest (a.put op.dst (.agg (pc k vi vp))) w) : wpList Tryd.prog ops Q (op :: rest) a w :=
  wpList_load_row hgd 26 x ho g hx 26 (pc k vi vp) (0, 0) _ hb Tryd.underlying26 rfl (pc_info k vi vp) h
/-- The same under a guard that says yes. -/
theorem load_pkg {ops : Array Oper} {rest : List Oper} {op : Oper} {a : Act} {w : World} {Q : Exit → Act → World → Prop} (x : Operand) (g : Nat) (k : K) (vi vp : Value) (hb : Blk w g (pc k vi vp) 26) (hgd : Region.wanted op (yielded ops a.tmps) = true) (ho : op.op = .load 26 x)
    (hx : a.eval x = .pointer (some ⟨g, 0, none⟩)) (h : wpList Tryd.prog ops Q rest (a.put op.dst (.agg (pc k vi vp))) w) : wpList Tryd.prog ops Q (op :: rest) a w := by
  unfold wpList
  rw [if_pos hgd]
  exact .inl (wp_load_row 26 x ho g hx 26 (pc k vi vp) (0, 0) _ hb Tryd.underlying26 rfl (pc_info k vi vp) h)
theorem end_take {W : World} {g : Nat} {k : K} {vi vp : Value} {e : Int} (tmps : Array Value) (h2 : tmps.getD 2 undef = .pointer (some ⟨g, 0, none⟩)) (h3 : tmps.getD 3 undef = .int .i64 e) (hb : Blk W g (pc k vi vp) 26) :
    (results Tryd.f22 tmps).run Tryd.prog W = .ok (.tuple #[.agg (pc k vi vp), .int .i64 e]) W := by
  rw [results_cell_tmp (p := 2) (u := 3) (ty := 26) rfl, h2, h3]
  show Result.andThen (.ok (⟨g, 0, none⟩ : Addr) W) _ = _
  rw [Result.andThen_ok, run_loadVar_row W g _ 26 (pc k vi vp) (0, 0) _ hb Tryd.underlying26 rfl (by kernel_rfl), Result.andThen_ok]
/-- The packet of a payload. -/
def parP : List UInt8 → Option K
  | [] => none
  | c :: m => par c.toNat m
/-- What 'Take' answers of a payload that fills the text. -/
def pTin (m : List UInt8) : K × Int :=
  match parP m with
  | some k => if k.may then (k, 0) else (K.zero, 4)
  | none => (K.zero, 4)
/-- What 'Take' answers of bytes. -/
def pT (l : List UInt8) : K × Int := if fnE l ≠ 0 then (K.zero, fnE l) else if fnU l = l.length then pTin (fnP l) else (K.zero, 4)
theorem pTin_none {m : List UInt8} (h : parP m = none) : pTin m = (K.zero, 4) := by unfold pTin; rw [h]
theorem pTin_some {m : List UInt8} {k : K} (h : parP m = some k) : pTin m = if k.may then (k, 0) else (K.zero, 4) := by unfold pTin; rw [h]
abbrev rs0 (l : List UInt8) : RS := rdn 1 (bs l, 0)
abbrev kd0 (l : List UInt8) : Nat := rdv 1 (bs l, 0)
theorem tk_full {j : Nat} {m : List UInt8} (h : j ≤ m.length) : tkR j (bs m) 0 = bs (m.drop j) ∧ tkE j (bs m) 0 = 0 ∧ rv j (bs m) 0 = V (m.take j) := by
  have hs : j ≤ (bs m).size := by rw [bs_size]; exact h
  refine ⟨?_, ?_, ?_⟩
  · unfold tkR; rw [if_pos rfl, if_pos hs]
    apply ByteArray.ext
    apply Array.toList_inj.1
    simp [bs, ByteArray.data_extract, List.extract_eq_take_drop, ByteArray.size]
    apply List.take_of_length_le; simp
  · unfold tkE; rw [if_pos rfl, if_pos hs]
  · unfold rv tkS; rw [if_pos rfl, if_pos hs]
    congr 1
    simp [bs, ByteArray.data_extract, List.extract_eq_take_drop]
theorem psL_none (k : K) : (psL.fields (k, none)).2 = none := by
  unfold Ps.fields
  dsimp only
  have hb : ∀ l, (psL.bs none l).2 = none := fun l => by rw [ad_bs]; rfl
  split
  · rfl
  split
  · exact hb _
  split
  · exact hb _
  split
  · rfl
  · rfl
theorem parP_iff (l : List UInt8) (k : K) : parP l = some k ↔ ((psI.fields (K.of (kd0 l), rs0 l)).2.2 = 0 ∧ (psI.fields (K.of (kd0 l), rs0 l)).2.1.size = 0) ∧ (psI.fields (K.of (kd0 l), rs0 l)).1 = k := by
  match l with
  | [] =>
    have hl : left (rs0 []) = none := by
      rw [show rs0 [] = rdn 1 (bs [], 0) from rfl, left_rdn]
      rfl
    have ht := (along.fields (k := (K.of (kd0 []), rs0 [])) (k' := (K.of (kd0 []), none)) ⟨rfl, hl⟩).2
    rw [psL_none] at ht
    constructor
    · intro h; cases h
    · rintro ⟨⟨h1, _⟩, _⟩
      unfold left at ht
      rw [if_pos h1] at ht
      cases ht
  | c :: m =>
    have h1 : kd0 (c :: m) = c.toNat := by
      rw [show kd0 (c :: m) = rdv 1 (bs (c :: m), 0) from rfl, rdv_left]
      unfold left va
      simp [bs_toList, V]
    have h2 : rs0 (c :: m) = (bs m, 0) := by
      obtain ⟨t1, t2, _⟩ := tk_full (j := 1) (m := c :: m) (by simp)
      show (tkR 1 (bs (c :: m)) 0, tkE 1 (bs (c :: m)) 0) = _
      rw [t1, t2]; rfl
    have h3 := parI c.toNat (bs m, 0) rfl k
    rw [bs_toList] at h3
    rw [h1, h2]
    exact h3
theorem K.of_wf {c : Nat} (h : c < 256) : (K.of (c : Int)).wf := by
  constructor
  · show -9223372036854775808 ≤ (c : Int) ∧ (c : Int) ≤ 9223372036854775807; omega
  all_goals first | (show 0 < _; decide)
/-- What fields by a reader leave. -/
theorem fields_in (p q : Nat) (l : List UInt8) (w : World) (hm : l.length ≤ maxLen) (hr : Rd w p (rs0 l).1 (rs0 l).2) (hb : Blk w q (pc (K.of (kd0 l)) (.slice none 0 0) (.slice none 0 0)) 26) (hne : q ≠ p) :
    Calls Tryd.prog 57 #[.pointer (some ⟨q, 0, none⟩), .iface 127 (.agg #[.pointer (some ⟨p, 0, none⟩)])] w fun r w' => r = .returned (.tuple #[]) ∧ ∃ (k : K) (s : ByteArray) (e : Int) (vi vp : Value),
      (∀ k', parP l = some k' ↔ (e = 0 ∧ s.size = 0) ∧ k = k') ∧ k.wf ∧ Rd w' p s e ∧ Blk w' q (pc k vi vp) 26 ∧ Kq w.heap.size p q w w' ∧ ∀ W, (w'.heap.size ≤ W.heap.size ∧ ∀ j, j < w'.heap.size → (w.heap.size ≤ j ∨ j = p) → W.heap[j]? = w'.heap[j]?) → Ins W vi k.ins ∧ Prs W vp k.prs := by
  have hpl := Rd.lt hr
  have hql := hb.lt
  have hk := K.of_wf (c := kd0 l) (rv_lt 1 _ _)
  have hs : (rs0 l).1.size ≤ maxLen := Nat.le_trans (rdn_size 1 _) (by show (bs l).size ≤ _; rw [bs_size]; exact hm)
  have hall := (passI p).all (S := fun k => k < w.heap.size ∧ k ≠ p) (q := q) (w := w) (ks := (K.of (kd0 l), rs0 l)) (b := none) (b' := none) (c := 0) (c' := 0) (C := fun _ => True) sksI (fun st n _ => by show min _ 33 ≤ 33; omega) (fun _ _ => trivial) hk hs ⟨hql, hne⟩
    ⟨⟨hr, fun k hk => hk⟩, hb, Ks.refl _ _⟩ (Nat.zero_le _) (fun W _ => ins_nil W) (Nat.zero_le _) (fun W _ => prs_nil W) (.inr ⟨rfl, rfl, rfl, rfl, rfl, rfl⟩)
  have hwf := (passI p).w_fields (ks := (K.of (kd0 l), rs0 l)) hk
  have hpar := parP_iff l
  generalize psI.fields (K.of (kd0 l), rs0 l) = F at *
  obtain ⟨k, s, e⟩ := F
  refine Calls.mono hall fun r w' ⟨h1, vi, vp, h2, h3, h4⟩ => ⟨h1, k, s, e, vi, vp, hpar, hwf, h2.1.1, h2.2.1, ?_, fun W hW => ?_⟩
  · have hK := h2.2.2
    exact ⟨hK.os, hK.tape, hK.output, hK.size, fun j h1 h2 h3 => hK.block j ⟨⟨h1, h2⟩, h3⟩⟩
  · have ho : Off (fun k => k < w.heap.size ∧ k ≠ p) w' W := ⟨hW.1, fun j hj hn => hW.2 j hj (by omega)⟩
    exact ⟨h3 W trivial ho, h4 W trivial ho⟩
end Go.Proofs.YtdgbililgkhjfaaDoor.Pk
