/- The law LinkKnown: walked. Condition: the table. -/
import Derived.Test.YtdgbililgkhjfaaDoorLkE
import Derived.Test.YtdgbililgkhjfaaDoorPkR
namespace Go.Proofs.YtdgbililgkhjfaaDoor.Lk
open Go.RowKit Go.Proofs.YtdgbililgkhjfaaDoor.Crc Go.Proofs.YtdgbililgkhjfaaDoor.Codec Go.Proofs.YtdgbililgkhjfaaDoor.Pk Go.Proofs.YtdgbililgkhjfaaDoor.CrcWalk Go.Proofs.YtdgbililgkhjfaaDoor.Frame
set_option linter.unusedVariables false
set_option linter.unusedSimpArgs false
abbrev PT := 26
/-- No link. -/
def L.none : L := ⟨0, 0, 0, false, 0, 0, 0, 0, false, false⟩
set_option maxRecDepth 100000 in
theorem nepoch (w : World) : Calls Tryd.prog 30 #[.pointer none] w fun r w' => r = .returned (.int .u64 0) ∧ w = w' := by
  go_enter Tryd.func30, Tryd.ntmps30
  go_wp2
  go_ret
  exact ⟨rfl, rfl⟩
set_option maxRecDepth 100000 in
theorem ncount (w : World) : Calls Tryd.prog 31 #[.pointer none] w fun r w' => r = .returned (.int .u64 0) ∧ w = w' := by
  go_enter Tryd.func31, Tryd.ntmps31
  go_wp2
  go_ret
  exact ⟨rfl, rfl⟩
set_option maxRecDepth 100000 in
theorem nowned (w : World) : Calls Tryd.prog 32 #[.pointer none] w fun r w' => r = .returned (.int .u64 0) ∧ w = w' := by
  go_enter Tryd.func32, Tryd.ntmps32
  go_wp2
  go_ret
  exact ⟨rfl, rfl⟩
set_option maxRecDepth 100000 in
theorem nmet (w : World) : Calls Tryd.prog 33 #[.pointer none] w fun r w' => r = .returned (.bool false) ∧ w = w' := by
  go_enter Tryd.func33, Tryd.ntmps33
  go_wp2
  go_ret
  exact ⟨rfl, rfl⟩
set_option maxRecDepth 100000 in
theorem ndue (t : Nat) (w : World) : Calls Tryd.prog 26 #[.pointer none, .int .u64 t] w fun r w' => r = .returned (.bool false) ∧ w = w' := by
  go_enter Tryd.func26, Tryd.ntmps26
  go_wp2
  go_ret
  exact ⟨rfl, rfl⟩
set_option maxRecDepth 100000 in
theorem nurge (w : World) : Calls Tryd.prog 38 #[.pointer none] w fun r w' => r = .returned (.tuple #[]) ∧ w = w' := by
  go_enter Tryd.func38, Tryd.ntmps38
  go_wp2
  go_end0
  exact ⟨rfl, rfl⟩
set_option maxRecDepth 100000 in
theorem nsent (t : Nat) (w : World) : Calls Tryd.prog 27 #[.pointer none, .int .u64 t] w fun r w' => r = .returned (.tuple #[]) ∧ w = w' := by
  go_enter Tryd.func27, Tryd.ntmps27
  go_wp2
  go_end0
  exact ⟨rfl, rfl⟩
set_option maxRecDepth 100000 in
theorem nwin (a b : Nat) (w : World) : Calls Tryd.prog 78 #[.pointer none, .int .u64 a, .int .u64 b] w fun r w' => r = .returned (.tuple #[.int .u64 0, .int .i64 0]) ∧ w = w' := by
  go_enter Tryd.func78, Tryd.ntmps78
  go_wp2
  go_ret2
  exact ⟨rfl, rfl⟩
set_option maxRecDepth 100000 in
theorem nacc (k : K) (vi vp : Value) (w : World) : Calls Tryd.prog 34 #[.pointer none, .agg (pc k vi vp)] w fun r w' => r = .returned (.int .i64 1) ∧ Below w.heap.size w w' := by
  go_enter Tryd.func34, Tryd.ntmps34
  go_wp2
  go_ret
  exact ⟨rfl, bel_new w _⟩
set_option maxRecDepth 100000 in
theorem zepoch (g : Nat) (w : World) (hb : Blk w g (lc L.none) LT) : Calls Tryd.prog 30 #[.pointer (some ⟨g, 0, none⟩)] w fun r w' => r = .returned (.int .u64 0) ∧ w = w' := by
  have c6 : w.cell? ⟨g, 6, none⟩ = some (.int .u64 0) := hb.cell _ rfl
  go_enter Tryd.func30, Tryd.ntmps30
  go_wp2
  go_ret
  exact ⟨rfl, rfl⟩
set_option maxRecDepth 100000 in
theorem zcount (g : Nat) (w : World) (hb : Blk w g (lc L.none) LT) : Calls Tryd.prog 31 #[.pointer (some ⟨g, 0, none⟩)] w fun r w' => r = .returned (.int .u64 0) ∧ w = w' := by
  have c6 : w.cell? ⟨g, 6, none⟩ = some (.int .u64 0) := hb.cell _ rfl
  go_enter Tryd.func31, Tryd.ntmps31
  go_wp2
  go_ret
  exact ⟨rfl, rfl⟩
set_option maxRecDepth 100000 in
theorem zowned (g : Nat) (w : World) (hb : Blk w g (lc L.none) LT) : Calls Tryd.prog 32 #[.pointer (some ⟨g, 0, none⟩)] w fun r w' => r = .returned (.int .u64 0) ∧ w = w' := by
  have c6 : w.cell? ⟨g, 6, none⟩ = some (.int .u64 0) := hb.cell _ rfl
  go_enter Tryd.func32, Tryd.ntmps32
  go_wp2
  go_ret
  exact ⟨rfl, rfl⟩
set_option maxRecDepth 100000 in
theorem zmet (g : Nat) (w : World) (hb : Blk w g (lc L.none) LT) : Calls Tryd.prog 33 #[.pointer (some ⟨g, 0, none⟩)] w fun r w' => r = .returned (.bool false) ∧ w = w' := by
  have c6 : w.cell? ⟨g, 6, none⟩ = some (.int .u64 0) := hb.cell _ rfl
  go_enter Tryd.func33, Tryd.ntmps33
  go_wp2
  go_ret
  exact ⟨rfl, rfl⟩
set_option maxRecDepth 100000 in
theorem zdue (t : Nat) (g : Nat) (w : World) (hb : Blk w g (lc L.none) LT) : Calls Tryd.prog 26 #[.pointer (some ⟨g, 0, none⟩), .int .u64 t] w fun r w' => r = .returned (.bool false) ∧ w = w' := by
  have c6 : w.cell? ⟨g, 6, none⟩ = some (.int .u64 0) := hb.cell _ rfl
  go_enter Tryd.func26, Tryd.ntmps26
  go_wp2
  go_ret
  exact ⟨rfl, rfl⟩
set_option maxRecDepth 100000 in
theorem zurge (g : Nat) (w : World) (hb : Blk w g (lc L.none) LT) : Calls Tryd.prog 38 #[.pointer (some ⟨g, 0, none⟩)] w fun r w' => r = .returned (.tuple #[]) ∧ w = w' := by
  have c6 : w.cell? ⟨g, 6, none⟩ = some (.int .u64 0) := hb.cell _ rfl
  go_enter Tryd.func38, Tryd.ntmps38
  go_wp2
  go_end0
  exact ⟨rfl, rfl⟩
set_option maxRecDepth 100000 in
theorem zsent (t : Nat) (g : Nat) (w : World) (hb : Blk w g (lc L.none) LT) : Calls Tryd.prog 27 #[.pointer (some ⟨g, 0, none⟩), .int .u64 t] w fun r w' => r = .returned (.tuple #[]) ∧ w = w' := by
  have c6 : w.cell? ⟨g, 6, none⟩ = some (.int .u64 0) := hb.cell _ rfl
  go_enter Tryd.func27, Tryd.ntmps27
  go_wp2
  go_end0
  exact ⟨rfl, rfl⟩
set_option maxRecDepth 100000 in
theorem zwin (a b : Nat) (g : Nat) (w : World) (hb : Blk w g (lc L.none) LT) : Calls Tryd.prog 78 #[.pointer (some ⟨g, 0, none⟩), .int .u64 a, .int .u64 b] w fun r w' => r = .returned (.tuple #[.int .u64 0, .int .i64 0]) ∧ w = w' := by
  have c6 : w.cell? ⟨g, 6, none⟩ = some (.int .u64 0) := hb.cell _ rfl
  go_enter Tryd.func78, Tryd.ntmps78
  go_wp2
  go_ret2
  exact ⟨rfl, rfl⟩
set_option maxRecDepth 100000 in
theorem zacc (k : K) (vi vp : Value) (g : Nat) (w : World) (hb : Blk w g (lc L.none) LT) : Calls Tryd.prog 34 #[.pointer (some ⟨g, 0, none⟩), .agg (pc k vi vp)] w fun r w' => r = .returned (.int .i64 1) ∧ Below w.heap.size w w' := by
  have c6 : w.cell? ⟨g, 6, none⟩ = some (.int .u64 0) := hb.cell _ rfl
  have d6 : (w.alloc (.cells (pc k vi vp) PT)).cell? ⟨g, 6, none⟩ = some (.int .u64 0) := (hb.alloc _).cell _ rfl
  have hlt := hb.lt
  go_enter Tryd.func34, Tryd.ntmps34
  go_wp2
  go_ret
  exact ⟨rfl, bel_new w _⟩
theorem same_self (q : K) (V : World) (h1 : q.ins = []) (h2 : q.prs = []) : Calls Tryd.prog 20 #[.agg (pc q nS nS), .agg (pc q nS nS)] V fun e w' => e = .returned (.bool true) ∧ Below V.heap.size V w' := by
  have h := same_any q q nS nS nS nS V (h1 ▸ ins_nil V) (h2 ▸ prs_nil V) (h1 ▸ ins_nil V) (h2 ▸ prs_nil V)
  rwa [decide_eq_true (show q = q from rfl)] at h
set_option maxRecDepth 100000 in
theorem zis (g : Nat) (w : World) (hb : Blk w g (lc L.none) LT) : Calls Tryd.prog 73 #[.pointer (some ⟨g, 0, none⟩)] w fun r w' => r = .returned (.bool false) ∧ w = w' := by
  have c6 : w.cell? ⟨g, 6, none⟩ = some (.int .u64 0) := hb.cell _ rfl
  go_enter Tryd.func73, Tryd.ntmps73
  go_wp2
  go_ret
  exact ⟨rfl, rfl⟩
set_option maxRecDepth 100000 in
theorem zhdr (kd : Int) (c g : Nat) (w : World) (hb : Blk w g (lc L.none) LT) : Calls Tryd.prog 40 #[.pointer (some ⟨g, 0, none⟩), .int .i64 kd, .int .u64 c] w fun r w' => r = .returned (.agg (pc K.zero nS nS)) ∧ Below w.heap.size w w' := by
  have HIS := Lib.hid (zis g _ (hb.alloc (.cells (pc K.zero nS nS) PT)))
  have hn : Blk (w.alloc (.cells (pc K.zero nS nS) PT)) w.heap.size (pc K.zero nS nS) PT := heap_alloc_new w _
  have hlt := hb.lt
  go_enter Tryd.func40, Tryd.ntmps40
  go_wp2_with fail
  refine HIS.out.mono ?_
  rintro r w' ⟨rfl, rfl⟩
  go_wp2_with (first | (refine store_pk (.tmp 6) (.tmp 10) w.heap.size K.zero K.zero _ _ nS nS slnil hn rfl rfl rfl rfl rfl ?_))
  exact bodyPost_ret (v := .agg (pc K.zero nS nS)) (results_cell_row rfl _ _ w.heap.size PT (pc K.zero nS nS) (0, 0) _ rfl (setRow_heap _ _ _ _ _ _ hn) Tryd.underlying26 rfl (pc_info _ _ _)) rfl ⟨rfl, below_setRow (bel_new w _) (Nat.le_refl _) _⟩
set_option maxRecDepth 100000 in
theorem window_ok (l : L) (a b : Nat) (g : Nat) (w : World) (hb : Blk w g (lc l) LT) (hl : l.wf) (ha : a < 18446744073709551616) (hbb : b < 18446744073709551616) :
    Calls Tryd.prog 39 #[.pointer (some ⟨g, 0, none⟩), .int .u64 a, .int .u64 b, .int .u64 (l.first a b), .int .i64 (l.many a b)] w fun r w' => r = .returned (.bool true) ∧ w = w' := by
  have HW := Lib.hid (win_any l g a b w hb hl ha hbb)
  generalize l.first a b = x at *
  generalize l.many a b = y at *
  have e1 : ((x : Int) == (x : Int)) = true := by simp
  have e2 : ((y : Int) == (y : Int)) = true := by simp
  clear hb hl
  go_enter Tryd.func39, Tryd.ntmps39
  go_wp2_with fail
  refine HW.out.mono ?_
  rintro r w' ⟨rfl, rfl⟩
  go_wp2
  go_ret
  exact ⟨rfl, rfl⟩
set_option maxRecDepth 100000 in
theorem nwindow (a b : Nat) (w : World) :
    Calls Tryd.prog 39 #[.pointer none, .int .u64 a, .int .u64 b, .int .u64 0, .int .i64 0] w fun r w' => r = .returned (.bool true) ∧ w = w' := by
  have HW := Lib.hid (fun V => nwin a b V)
  go_enter Tryd.func39, Tryd.ntmps39
  go_wp2_with fail
  refine (HW.out _).mono ?_
  rintro r w' ⟨rfl, rfl⟩
  go_wp2
  go_ret
  exact ⟨rfl, rfl⟩
def s0 : L := (L.make 0 2 3)
theorem s0_wf : s0.wf := by constructor <;> decide
def s1 : L := ⟨0, 0, 0, false, 0, 2, 3, 5, false, true⟩
theorem s1_wf : s1.wf := by constructor <;> decide
def s2 : L := ⟨0, 0, 0, false, 0, 2, 3, 5, true, true⟩
theorem s2_wf : s2.wf := by constructor <;> decide
def s3 : L := ⟨4, 3, 5, false, 0, 2, 3, 5, true, true⟩
theorem s3_wf : s3.wf := by constructor <;> decide
def s4 : L := ⟨4, 3, 8, true, 0, 2, 3, 5, true, true⟩
theorem s4_wf : s4.wf := by constructor <;> decide
def s5 : L := ⟨5, 3, 8, false, 0, 2, 3, 5, true, true⟩
theorem s5_wf : s5.wf := by constructor <;> decide
def k1 : K := ⟨1, 1, 4, 0, 3, 5, 0, [], [], 0, 0⟩
theorem k1_wf : k1.wf := by constructor <;> decide
def k2 : K := ⟨3, 1, 4, 2, 2, 0, 5, [1, 2, 3], [], 0, 0⟩
theorem k2_wf : k2.wf := by constructor <;> decide
def k3 : K := ⟨1, 1, 3, 0, 0, 0, 0, [], [], 0, 0⟩
theorem k3_wf : k3.wf := by constructor <;> decide
def k4 : K := ⟨5, 1, 4, 1, 0, 0, 0, [], [], 0, 0⟩
theorem k4_wf : k4.wf := by constructor <;> decide
def k5 : K := ⟨1, 0, 4, 0, 0, 0, 0, [], [], 0, 0⟩
theorem k5_wf : k5.wf := by constructor <;> decide
def k6 : K := K.zero
theorem k6_wf : k6.wf := by constructor <;> decide
def k7 : K := ⟨1, 1, 5, 0, 0, 0, 0, [], [], 0, 0⟩
theorem k7_wf : k7.wf := by constructor <;> decide
theorem a_2_k1 : s2.acc k1 = (s3, 0) := by rfl
theorem a_3_k2 : s3.acc k2 = (s4, 0) := by rfl
theorem a_4_k3 : s4.acc k3 = (s4, 12) := by rfl
theorem a_4_k4 : s4.acc k4 = (s4, 12) := by rfl
theorem a_4_k5 : s4.acc k5 = (s4, 4) := by rfl
theorem a_4_k6 : s4.acc k6 = (s4, 4) := by rfl
theorem a_4_k7 : s4.acc k7 = (s5, 0) := by rfl
theorem ins123 (w : World) : Ins (w.alloc (.cells #[.int .u8 1, .int .u8 2, .int .u8 3] 42)) (.slice (some ⟨w.heap.size, 0, none⟩) 3 3) k2.ins := by
  refine ⟨_, 3, rfl, by decide, fun i hi => ⟨w.heap.size, 0, rfl, by simp, ?_⟩⟩
  have hb : Blk (w.alloc (.cells #[.int .u8 1, .int .u8 2, .int .u8 3] 42)) w.heap.size #[.int .u8 1, .int .u8 2, .int .u8 3] 42 := heap_alloc_new w _
  have hi3 : i < 3 := hi
  match i, hi3 with
  | 0, _ => exact hb.cell _ rfl
  | 1, _ => exact hb.cell _ rfl
  | 2, _ => exact hb.cell _ rfl
set_option maxRecDepth 100000 in
set_option maxHeartbeats 16000000 in
/-- The law LinkKnown. -/
theorem known_law (w : World) (hT : Tab w) : Calls Tryd.prog 11 #[] w fun r w' => r = .returned (.bool true) ∧ Below w.heap.size w w' := by
  have HA := Lib.hid (fun W (h : Below w.heap.size w W) => awake_any W (tab_below hT h))
  have HN := Lib.hid (fun W => new_yes 0 2 3 W (by decide) (by decide))
  have HNO := Lib.hid (fun p e (v : Int) W (h : ¬ mayL p e v) => new_no p e v W h)
  have HEP := Lib.hid (fun m V (hw : L.wf m) (d : Lv w w.heap.size m V) => epoch_any m _ V d.blk hw)
  have HCO := Lib.hid (fun m V (hw : L.wf m) (d : Lv w w.heap.size m V) => count_any m _ V d.blk hw)
  have HOW := Lib.hid (fun m V (hw : L.wf m) (d : Lv w w.heap.size m V) => owned_any m _ V d.blk hw)
  have HME := Lib.hid (fun m V (hw : L.wf m) (d : Lv w w.heap.size m V) => met_any m _ V d.blk hw)
  have HUR := Lib.hid (fun m V (hw : L.wf m) (d : Lv w w.heap.size m V) => urge_any m _ V d.blk hw)
  have HSE := Lib.hid (fun m t V (hw : L.wf m) (d : Lv w w.heap.size m V) (ht : t < 18446744073709551616) => sent_any m _ t V d.blk hw ht)
  have HDU := Lib.hid (fun m t V (hw : L.wf m) (d : Lv w w.heap.size m V) (ht : t < 18446744073709551616) => due_any m _ t V d.blk hw ht)
  have HAC := Lib.hid (fun m k vi vp V (hw : L.wf m) (d : Lv w w.heap.size m V) (hk : K.wf k) (hi : Ins V vi k.ins) (hp : Prs V vp k.prs) => acc_any m k vi vp w.heap.size V d.blk hw hk hi hp (tab_below hT d.bel))
  have HWI := Lib.hid (fun m a b V (hw : L.wf m) (d : Lv w w.heap.size m V) (ha : a < 18446744073709551616) (hb : b < 18446744073709551616) => window_ok m a b _ V d.blk hw ha hb)
  have HHD := Lib.hid (fun m kd c V (hw : L.wf m) (d : Lv w w.heap.size m V) => hdr_any m kd c _ V d.blk hw)
  have HSA := Lib.hid (fun (q : K) V (h1 : q.ins = []) (h2 : q.prs = []) => same_self q V h1 h2)
  have HWW := Lib.hid hT
  clear hT
  go_enter Tryd.func11, Tryd.ntmps11
  go_wp2_with fail
  refine (HN.out _).mono ?_
  rintro r w1 ⟨rfl, hb, hbel⟩
  have hL : Lv w w.heap.size s0 w1 := ⟨hb, hbel, Nat.le_refl _⟩
  clear hb hbel
  have hQ := HSE.out s0 5 _ s0_wf hL (by decide)
  go_wp2_with fail
  refine (hQ).mono ?_
  rintro r w2 ⟨rfl, hb, hk⟩
  have hL : Lv w w.heap.size s1 w2 := hL.upon hb hk
  clear hb hk hQ
  have hQ := HDU.out s1 7 _ s1_wf hL (by decide)
  rw [show s1.due 7 = false by rfl] at hQ
  go_wp2_with fail
  refine (hQ).mono ?_
  rintro r w3 ⟨rfl, hb⟩
  have hL := hL.call hb
  clear hb hQ
  have hQ := HDU.out s1 4 _ s1_wf hL (by decide)
  rw [show s1.due 4 = false by rfl] at hQ
  go_wp2_with fail
  refine (hQ).mono ?_
  rintro r w4 ⟨rfl, hb⟩
  have hL := hL.call hb
  clear hb hQ
  have hQ := HDU.out s1 8 _ s1_wf hL (by decide)
  rw [show s1.due 8 = true by rfl] at hQ
  go_wp2_with fail
  refine (hQ).mono ?_
  rintro r w5 ⟨rfl, hb⟩
  have hL := hL.call hb
  clear hb hQ
  have hQ := HUR.out s1 _ s1_wf hL
  go_wp2_with fail
  refine (hQ).mono ?_
  rintro r w6 ⟨rfl, hb, hk⟩
  have hL : Lv w w.heap.size s2 w6 := hL.upon hb hk
  clear hb hk hQ
  have hQ := HDU.out s2 7 _ s2_wf hL (by decide)
  rw [show s2.due 7 = true by rfl] at hQ
  go_wp2_with fail
  refine (hQ).mono ?_
  rintro r w7 ⟨rfl, hb⟩
  have hL := hL.call hb
  clear hb hQ
  have hQ := HAC.out s2 k1 nS nS _ s2_wf hL k1_wf (ins_nil _) (prs_nil _)
  rw [a_2_k1] at hQ
  go_wp2_with fail
  refine (hQ).mono ?_
  rintro r w8 ⟨rfl, hb, hk⟩
  have hL : Lv w w.heap.size s3 w8 := hL.upon hb hk
  clear hb hk hQ
  have hQ := HEP.out s3 _ s3_wf hL
  rw [show s3.epoch = 4 by rfl] at hQ
  go_wp2_with fail
  refine (hQ).mono ?_
  rintro r w' ⟨rfl, rfl⟩
  clear hQ
  have hQ := HCO.out s3 _ s3_wf hL
  rw [show s3.count = 3 by rfl] at hQ
  go_wp2_with fail
  refine (hQ).mono ?_
  rintro r w' ⟨rfl, rfl⟩
  clear hQ
  have hQ := HOW.out s3 _ s3_wf hL
  rw [show s3.owned = 5 by rfl] at hQ
  go_wp2_with fail
  refine (hQ).mono ?_
  rintro r w' ⟨rfl, rfl⟩
  clear hQ
  have hQ := HME.out s3 _ s3_wf hL
  rw [show s3.met = false by rfl] at hQ
  go_wp2_with fail
  refine (hQ).mono ?_
  rintro r w' ⟨rfl, rfl⟩
  clear hQ
  have hL := hL.call (bel_new w8 (.cells #[.int .u8 1, .int .u8 2, .int .u8 3] 42))
  have hQ := HAC.out s3 k2 (.slice (some ⟨w8.heap.size, 0, none⟩) 3 3) nS (w8.alloc (.cells #[.int .u8 1, .int .u8 2, .int .u8 3] 42)) s3_wf hL k2_wf (ins123 w8) (prs_nil _)
  rw [a_3_k2] at hQ
  go_wp2_with fail
  refine (hQ).mono ?_
  rintro r w9 ⟨rfl, hb, hk⟩
  have hL : Lv w w.heap.size s4 w9 := hL.upon hb hk
  clear hb hk hQ
  have hQ := HCO.out s4 _ s4_wf hL
  rw [show s4.count = 3 by rfl] at hQ
  go_wp2_with fail
  refine (hQ).mono ?_
  rintro r w' ⟨rfl, rfl⟩
  clear hQ
  have hQ := HOW.out s4 _ s4_wf hL
  rw [show s4.owned = 8 by rfl] at hQ
  go_wp2_with fail
  refine (hQ).mono ?_
  rintro r w' ⟨rfl, rfl⟩
  clear hQ
  have hQ := HME.out s4 _ s4_wf hL
  rw [show s4.met = true by rfl] at hQ
  go_wp2_with fail
  refine (hQ).mono ?_
  rintro r w' ⟨rfl, rfl⟩
  clear hQ
  have hQ := HAC.out s4 k3 nS nS _ s4_wf hL k3_wf (ins_nil _) (prs_nil _)
  rw [a_4_k3] at hQ
  go_wp2_with fail
  refine (hQ).mono ?_
  rintro r w10 ⟨rfl, hb, hk⟩
  have hL : Lv w w.heap.size s4 w10 := hL.upon hb hk
  clear hb hk hQ
  have hQ := HAC.out s4 k4 nS nS _ s4_wf hL k4_wf (ins_nil _) (prs_nil _)
  rw [a_4_k4] at hQ
  go_wp2_with fail
  refine (hQ).mono ?_
  rintro r w11 ⟨rfl, hb, hk⟩
  have hL : Lv w w.heap.size s4 w11 := hL.upon hb hk
  clear hb hk hQ
  have hQ := HAC.out s4 k5 nS nS _ s4_wf hL k5_wf (ins_nil _) (prs_nil _)
  rw [a_4_k5] at hQ
  go_wp2_with fail
  refine (hQ).mono ?_
  rintro r w12 ⟨rfl, hb, hk⟩
  have hL : Lv w w.heap.size s4 w12 := hL.upon hb hk
  clear hb hk hQ
  have hQ := HAC.out s4 k6 nS nS _ s4_wf hL k6_wf (ins_nil _) (prs_nil _)
  rw [a_4_k6] at hQ
  go_wp2_with fail
  refine (hQ).mono ?_
  rintro r w13 ⟨rfl, hb, hk⟩
  have hL : Lv w w.heap.size s4 w13 := hL.upon hb hk
  clear hb hk hQ
  have hQ := HWI.out s4 0 50 _ s4_wf hL (by decide) (by decide)
  rw [show s4.first 0 50 = 3 by rfl, show s4.many 0 50 = 32 by rfl] at hQ
  go_wp2_with fail
  refine (hQ).mono ?_
  rintro r w' ⟨rfl, rfl⟩
  clear hQ
  have hQ := HWI.out s4 10 12 _ s4_wf hL (by decide) (by decide)
  rw [show s4.first 10 12 = 10 by rfl, show s4.many 10 12 = 2 by rfl] at hQ
  go_wp2_with fail
  refine (hQ).mono ?_
  rintro r w' ⟨rfl, rfl⟩
  clear hQ
  have hQ := HWI.out s4 0 2 _ s4_wf hL (by decide) (by decide)
  rw [show s4.first 0 2 = 2 by rfl, show s4.many 0 2 = 0 by rfl] at hQ
  go_wp2_with fail
  refine (hQ).mono ?_
  rintro r w' ⟨rfl, rfl⟩
  clear hQ
  have hQ := HWI.out s4 9 5 _ s4_wf hL (by decide) (by decide)
  rw [show s4.first 9 5 = 5 by rfl, show s4.many 9 5 = 0 by rfl] at hQ
  go_wp2_with fail
  refine (hQ).mono ?_
  rintro r w' ⟨rfl, rfl⟩
  clear hQ
  have hQ := HHD.out s4 5 7 _ s4_wf hL
  go_wp2_with fail
  refine (hQ).mono ?_
  rintro r w14 ⟨rfl, hb⟩
  have hL := hL.call hb
  clear hb hQ
  have hQ := HSA.out (s4.hdr 5 7) w14 rfl rfl
  skip
  go_wp2_with fail
  refine (hQ).mono ?_
  rintro r w15 ⟨rfl, hb⟩
  have hL := hL.call hb
  clear hb hQ
  have hQ := HAC.out s4 k7 nS nS _ s4_wf hL k7_wf (ins_nil _) (prs_nil _)
  rw [a_4_k7] at hQ
  go_wp2_with fail
  refine (hQ).mono ?_
  rintro r w16 ⟨rfl, hb, hk⟩
  have hL : Lv w w.heap.size s5 w16 := hL.upon hb hk
  clear hb hk hQ
  have hQ := HME.out s5 _ s5_wf hL
  rw [show s5.met = false by rfl] at hQ
  go_wp2_with fail
  refine (hQ).mono ?_
  rintro r w' ⟨rfl, rfl⟩
  clear hQ
  have hQ := HEP.out s5 _ s5_wf hL
  rw [show s5.epoch = 5 by rfl] at hQ
  go_wp2_with fail
  refine (hQ).mono ?_
  rintro r w' ⟨rfl, rfl⟩
  clear hQ
  have hQ := HCO.out s5 _ s5_wf hL
  rw [show s5.count = 3 by rfl] at hQ
  go_wp2_with fail
  refine (hQ).mono ?_
  rintro r w' ⟨rfl, rfl⟩
  clear hQ
  have hQ := HOW.out s5 _ s5_wf hL
  rw [show s5.owned = 8 by rfl] at hQ
  go_wp2_with fail
  refine (hQ).mono ?_
  rintro r w' ⟨rfl, rfl⟩
  clear hQ
  have hB := hL.bel
  have hz : Blk (w16.alloc (.cells (lc L.none) LT)) w16.heap.size (lc L.none) LT := heap_alloc_new w16 _
  have hB := hB.trans ((bel_new w16 (.cells (lc L.none) LT)).mono hB.size)
  clear hL HEP HCO HOW HME HUR HSE HDU HAC HWI HHD HN
  go_wp2_with fail
  refine (nurge _).mono ?_
  rintro r w' ⟨rfl, rfl⟩
  go_wp2_with fail
  refine (zsent 5 _ _ hz).mono ?_
  rintro r w' ⟨rfl, rfl⟩
  go_wp2_with fail
  refine (HNO.out 2 1 1 _ (by decide)).mono ?_
  rintro r w' ⟨rfl, rfl⟩
  go_wp2_with fail
  refine (HNO.out 0 0 1 _ (by decide)).mono ?_
  rintro r w' ⟨rfl, rfl⟩
  go_wp2_with fail
  refine (HNO.out 0 1 17 _ (by decide)).mono ?_
  rintro r w' ⟨rfl, rfl⟩
  go_wp2_with fail
  refine (HNO.out 0 1 0 _ (by decide)).mono ?_
  rintro r w' ⟨rfl, rfl⟩
  go_wp2_with fail
  refine (nacc K.zero nS nS _).mono ?_
  rintro r w17 ⟨rfl, hb⟩
  have hz : Blk w17 w16.heap.size (lc L.none) LT := (hb.block _ hz.lt).trans hz
  have hB := hB.trans (hb.mono hB.size)
  clear hb
  go_wp2_with fail
  refine (zacc K.zero nS nS _ _ hz).mono ?_
  rintro r w18 ⟨rfl, hb⟩
  have hz : Blk w18 w16.heap.size (lc L.none) LT := (hb.block _ hz.lt).trans hz
  have hB := hB.trans (hb.mono hB.size)
  clear hb
  go_wp2_with fail
  refine (ndue 0 _).mono ?_
  rintro r w' ⟨rfl, rfl⟩
  go_wp2_with fail
  refine (zdue 9 _ _ hz).mono ?_
  rintro r w' ⟨rfl, rfl⟩
  go_wp2_with fail
  refine (nepoch _).mono ?_
  rintro r w' ⟨rfl, rfl⟩
  go_wp2_with fail
  refine (zcount _ _ hz).mono ?_
  rintro r w' ⟨rfl, rfl⟩
  go_wp2_with fail
  refine (nowned _).mono ?_
  rintro r w' ⟨rfl, rfl⟩
  go_wp2_with fail
  refine (zmet _ _ hz).mono ?_
  rintro r w' ⟨rfl, rfl⟩
  go_wp2_with fail
  refine (nwindow 1 2 _).mono ?_
  rintro r w' ⟨rfl, rfl⟩
  go_wp2_with fail
  refine (zhdr 1 1 _ _ hz).mono ?_
  rintro r w19 ⟨rfl, hb⟩
  have hz : Blk w19 w16.heap.size (lc L.none) LT := (hb.block _ hz.lt).trans hz
  have hB := hB.trans (hb.mono hB.size)
  clear hb
  have hQ := HSA.out K.zero w19 rfl rfl
  skip
  go_wp2_with fail
  refine (hQ).mono ?_
  rintro r w20 ⟨rfl, hb⟩
  have hB := hB.trans (hb.mono hB.size)
  clear hb hQ
  go_wp2_with fail
  refine (HA.out _ hB).mono ?_
  rintro r w21 ⟨rfl, hb⟩
  have hB := hB.trans (hb.mono hB.size)
  clear hb
  go_wp2
  go_ret
  exact ⟨rfl, hB⟩
end Go.Proofs.YtdgbililgkhjfaaDoor.Lk
