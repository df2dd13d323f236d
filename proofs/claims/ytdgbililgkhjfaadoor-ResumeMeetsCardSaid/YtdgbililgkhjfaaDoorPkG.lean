/- What 'fields' does by a pass, kind by kind: out of its walk's skeletons (sentences about any predicates of worlds), which are proved next. No conditions. -/
import Derived.Test.YtdgbililgkhjfaaDoorPkF
namespace Go.Proofs.YtdgbililgkhjfaaDoor.Pk
open Go.RowKit Go.Proofs.YtdgbililgkhjfaaDoor.Crc Go.Proofs.YtdgbililgkhjfaaDoor.Codec Go.Proofs.YtdgbililgkhjfaaDoor.CrcWalk
set_option linter.unusedVariables false
/-- A slice of pointers into block q was made behind wx. -/
def Ptrs (q : Nat) (offs : List Nat) (wx W : World) : Prop := Below wx.heap.size wx W ∧ W.heap[wx.heap.size]? = some (.cells (offs.map fun o => Value.pointer (some ⟨q, o, none⟩)).toArray 152 (0, 0))
/-- The methods of a pass, asked for. -/
structure Mets (T : TypeId) (v : Value) (fb fl fm : Nat) : Prop where
  nb : ∀ w, (nilAhead 310 T v "hindcast/packet.byte").run Tryd.prog w = .ok (some false) w
  mb : ∀ w, (method 310 T v "hindcast/packet.byte").run Tryd.prog w = .ok (fb, v) w
  nl : ∀ w, (nilAhead 310 T v "hindcast/packet.long").run Tryd.prog w = .ok (some false) w
  ml : ∀ w, (method 310 T v "hindcast/packet.long").run Tryd.prog w = .ok (fl, v) w
  nm : ∀ w, (nilAhead 310 T v "hindcast/packet.many").run Tryd.prog w = .ok (some false) w
  mm : ∀ w, (method 310 T v "hindcast/packet.many").run Tryd.prog w = .ok (fm, v) w
/-- A call of a method that answers nothing, from one predicate to another one. -/
def Step (f : Nat) (args : Array Value) (w : World) (R : World → Prop) : Prop := Calls Tryd.prog f args w fun r w' => r = .returned (.tuple #[]) ∧ R w'
/-- The walk's beginning: a byte, three numbers, the kind. -/
structure Head (q : Nat) (v : Value) (fb fl : Nat) (kind : Int) (R0 R1 R2 : World → Prop) : Prop where
  d0 : ∀ w, R0 w → R0 w.drew
  h1 : ∀ w, R0 w → Step fb #[v, .pointer (some ⟨q, 1, none⟩)] w R1
  h2 : ∀ w W, R1 w → Ptrs q [2, 3, 4] w W → Step fl #[v, .slice (some ⟨w.heap.size, 0, none⟩) 3 3] W R2
  kd : ∀ w, R2 w → w.cell? ⟨q, 0, none⟩ = some (.int .i64 kind)
def Fields (q : Nat) (T : TypeId) (v : Value) (w : World) (R : World → Prop) : Prop := Calls Tryd.prog 57 #[.pointer (some ⟨q, 0, none⟩), .iface T v] w fun r w' => r = .returned (.tuple #[]) ∧ R w'
def Sk0 (fb fl fm : Nat) : Prop := ∀ (q : Nat) (T : TypeId) (v : Value) (kind : Int) (R0 R1 R2 : World → Prop) (w : World), Mets T v fb fl fm → Head q v fb fl kind R0 R1 R2 → (kind < 1 ∨ 5 < kind) → R0 w → Fields q T v w R2
def Sk1 (k : Int) (offs : List Nat) (fb fl fm : Nat) : Prop := ∀ (q : Nat) (T : TypeId) (v : Value) (R0 R1 R2 R3 : World → Prop) (w : World), Mets T v fb fl fm → Head q v fb fl k R0 R1 R2 →
  (∀ w W, R2 w → Ptrs q offs w W → Step fl #[v, .slice (some ⟨w.heap.size, 0, none⟩) offs.length offs.length] W R3) → R0 w → Fields q T v w R3
/-- The lists: field off of block q, of a type whose grown is gr. -/
structure Mid (q off : Nat) (v : Value) (fl fm : Nat) (b : Option Addr) (L c : Nat) (n : Nat) (R2 R3 R4 : World → Prop) : Prop where
  h3 : ∀ w W, R2 w → Ptrs q [6] w W → Step fl #[v, .slice (some ⟨w.heap.size, 0, none⟩) 1 1] W R3
  d3 : ∀ w, R3 w → R3 w.drew
  c3 : ∀ w, R3 w → w.cell? ⟨q, off, none⟩ = some (.slice b L c)
  h4 : ∀ w, R3 w → Calls Tryd.prog fm #[v, .int .i64 L] w fun r w' => r = .returned (.int .i64 n) ∧ R4 w'
  c4 : ∀ w, R4 w → w.cell? ⟨q, off, none⟩ = some (.slice b L c)
  l4 : L ≤ 32
  n4 : n < 256
def SkZ (k : Int) (off gr : Nat) (fb fl fm : Nat) : Prop := ∀ (q : Nat) (T : TypeId) (v : Value) (b : Option Addr) (L c : Nat) (R0 R1 R2 R3 R4 R5 : World → Prop) (w : World), Mets T v fb fl fm → Head q v fb fl k R0 R1 R2 → Mid q off v fl fm b L c 0 R2 R3 R4 →
  (∀ w, R4 w → Calls Tryd.prog gr #[.slice b L c, .int .i64 0] w fun r w' => r = .returned (.slice none 0 0) ∧ w'.cell? ⟨q, off, none⟩ = some (.slice b L c) ∧ w'.frozen? ⟨q, off, none⟩ = false ∧ R5 (w'.setCell ⟨q, off, none⟩ (.slice none 0 0))) →
  (∀ w, R5 w → w.cell? ⟨q, off, none⟩ = some (.slice none 0 0)) → R0 w → Fields q T v w R5
def SkL (k : Int) (off gr sz : Nat) (fb fl fm : Nat) : Prop := ∀ (q : Nat) (T : TypeId) (v : Value) (b : Option Addr) (L c n : Nat) (R0 R1 R2 R3 R4 R6 : World → Prop) (R5 : Nat → Nat → Nat → World → Prop) (w : World), Mets T v fb fl fm → Head q v fb fl k R0 R1 R2 → Mid q off v fl fm b L c n R2 R3 R4 →
  (∀ w, R4 w → Calls Tryd.prog gr #[.slice b L c, .int .i64 n] w fun r w' => ∃ g c', r = .returned (.slice (some ⟨g, 0, none⟩) n c') ∧ n ≤ c' ∧ c' ≤ maxLen ∧ w'.cell? ⟨q, off, none⟩ = some (.slice b L c) ∧ w'.frozen? ⟨q, off, none⟩ = false ∧ R5 g c' 0 (w'.setCell ⟨q, off, none⟩ (.slice (some ⟨g, 0, none⟩) n c'))) →
  (∀ g c' m w, R5 g c' m w → n ≤ c' ∧ c' ≤ maxLen ∧ w.cell? ⟨q, off, none⟩ = some (.slice (some ⟨g, 0, none⟩) n c')) → (∀ g c' m w, R5 g c' m w → R5 g c' m w.drew) →
  (∀ g c' m w, R5 g c' m w → m < n * sz → Step fb #[v, .pointer (some ⟨g, m, none⟩)] w (R5 g c' (m + 1))) → (∀ g c' w, R5 g c' (n * sz) w → R6 w) → R0 w → Fields q T v w R6
end Go.Proofs.YtdgbililgkhjfaaDoor.Pk
