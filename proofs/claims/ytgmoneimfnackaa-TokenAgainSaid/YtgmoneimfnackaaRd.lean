/-
  Words of our own on memory: a tree of values that is read through slices ('Tr', 'Rd'). It imports nothing of the program.
-/
import Derived.WalkKit
import Derived.WalkSpells
import Derived.WalkLawsBesides
import Derived.Lib.Hide
import Derived.Deep.QuietTactic
import Derived.BigQuiet
import Derived.Maps.AppendAt
import Derived.Carry
namespace Go.Proofs.Ytgmoneimfnackaa
open Go.RowKit

/-- A value as it is read to its end: one cell, or a slice with its rows of cells ('size' cells an element). -/
inductive Tr where
  | leaf (v : Value)
  | sl (size : Nat) (rows : List (List Tr))

/-- How a value reads in a world, below block B. -/
inductive Rd (w : World) (B : Nat) : Tr → Value → Prop
  | leaf (v : Value) : Rd w B (.leaf v) v
  | none_ (size : Nat) : Rd w B (.sl size []) (.slice none 0 0)
  | empty (size : Nat) (a : Addr) : Rd w B (.sl size []) (.slice (some a) 0 0)
  | row (size b off c : Nat) (rows : List (List Tr)) (us : Nat → Nat → Value) (hl : ∀ r ∈ rows, r.length = size) (hc : rows.length ≤ c) (hn : rows.length ≤ 140737488351232) (hm : c ≤ maxLen) (hb : b < B)
      (hcell : ∀ k j, k < rows.length → j < size → w.cell? ⟨b, off + k * size + j, none⟩ = some (us k j))
      (hr : ∀ k (h : k < rows.length) j (h' : j < rows[k].length), Rd w B rows[k][j] (us k j)) :
      Rd w B (.sl size rows) (.slice (some ⟨b, off, none⟩) rows.length c)

theorem Rd.keep {w w' : World} {B : Nat} {t : Tr} {v : Value} (h : Rd w B t v) (hk : ∀ p : Addr, p.block < B → w'.cell? p = w.cell? p) : Rd w' B t v := by
  induction h with
  | leaf v => exact .leaf v
  | none_ size => exact .none_ size
  | empty size a => exact .empty size a
  | row size b off c rows us hl hc hn hm hb hcell hr ih => exact .row size b off c rows us hl hc hn hm hb (fun k j hk' hj => (hk _ hb).trans (hcell k j hk' hj)) ih

theorem Rd.more {w : World} {B B' : Nat} {t : Tr} {v : Value} (h : Rd w B t v) (hB : B ≤ B') : Rd w B' t v := by
  induction h with
  | leaf v => exact .leaf v
  | none_ size => exact .none_ size
  | empty size a => exact .empty size a
  | row size b off c rows us hl hc hn hm hb hcell hr ih => exact .row size b off c rows us hl hc hn hm (by omega) hcell ih

theorem Rd.low {w w' : World} {B B' : Nat} {t : Tr} {v : Value} (h : Rd w B t v) (hb : Below B' w w') (hB : B ≤ B') : Rd w' B t v :=
  h.keep fun p hp => hb.cell (by omega)

theorem Rd.leaf_inv {w : World} {B : Nat} {u v : Value} (h : Rd w B (.leaf u) v) : v = u := by cases h; rfl

/-- A slice that reads: nil, or a row. -/
theorem Rd.sl_inv {w : World} {B size : Nat} {rows : List (List Tr)} {v : Value} (h : Rd w B (.sl size rows) v) :
    (rows = [] ∧ ∃ A, v = .slice A 0 0) ∨ ∃ (b off c : Nat) (us : Nat → Nat → Value), v = .slice (some ⟨b, off, none⟩) rows.length c ∧ rows.length ≤ c ∧ rows.length ≤ 140737488351232 ∧ c ≤ maxLen ∧ b < B ∧
      (∀ k j, k < rows.length → j < size → w.cell? ⟨b, off + k * size + j, none⟩ = some (us k j)) ∧ (∀ k (h : k < rows.length) j (h' : j < rows[k].length), Rd w B rows[k][j] (us k j)) := by
  cases h with
  | none_ => exact .inl ⟨rfl, _, rfl⟩
  | empty _ a => exact .inl ⟨rfl, _, rfl⟩
  | row _ b off c _ us hl hc hn hm hb hcell hr => exact .inr ⟨b, off, c, us, rfl, hc, hn, hm, hb, hcell, hr⟩

/-- Behind a call: the block that was laid just before it, and what was there. -/
theorem box_after {w w1 : World} {cs : Array Value} {t : TypeId} (h : Below (w.alloc (.cells cs t)).heap.size (w.alloc (.cells cs t)) w1) :
    (∀ o, w1.cell? ⟨w.heap.size, o, none⟩ = cs[o]?) ∧ Below w.heap.size w w1 ∧ w.heap.size + 1 ≤ w1.heap.size := by
  have h1 : w1.heap[w.heap.size]? = some (.cells cs t (0, 0)) := (h.block _ (by simp)).trans (heap_alloc_new w _)
  exact ⟨fun o => cell_of_row w1 _ o _ _ _ h1, ((Below.refl _ _).alloc (Nat.le_refl _) _).trans (h.mono (by simp)), by have := h.size; simpa using this⟩

theorem below_box (w : World) (o : Obj) : Below w.heap.size w (w.alloc o) := (Below.refl _ _).alloc (Nat.le_refl _) _

theorem drewN_low {B : Nat} {a w : World} (h : Below B a w) (n : Nat) : Below B a (w.drewN n) := ⟨h.os, h.tape, h.output, h.size, h.block⟩
theorem drewN_heap (w : World) (n : Nat) : (w.drewN n).heap = w.heap := rfl

/-- What was there stays, but for the blocks of F; the streams are as they were. -/
structure Upd (w w' : World) (F : Nat → Prop) : Prop where
  os : w'.os = w.os
  tape : w'.tape = w.tape
  output : w'.output = w.output
  size : w.heap.size ≤ w'.heap.size
  block : ∀ k, k < w.heap.size → ¬ F k → w'.heap[k]? = w.heap[k]?

theorem Upd.refl (w : World) (F : Nat → Prop) : Upd w w F := ⟨rfl, rfl, rfl, Nat.le_refl _, fun _ _ _ => rfl⟩
theorem Upd.low {w w' : World} (h : Below w.heap.size w w') (F : Nat → Prop) : Upd w w' F := ⟨h.os, h.tape, h.output, h.size, fun k hk _ => h.block k hk⟩
theorem Upd.toLow {w w' : World} {F : Nat → Prop} (h : Upd w w' F) {B : Nat} (hB : B ≤ w.heap.size) (hF : ∀ k, F k → B ≤ k) : Below B w w' :=
  ⟨h.os, h.tape, h.output, h.size, fun k hk => h.block k (by omega) (fun hf => by have := hF k hf; omega)⟩
theorem Upd.grown {w w' : World} {row : Option Nat} (h : w.grownBy w' row) : Upd w w' (fun k => row = some k) := ⟨h.os, h.tape, h.output, h.size, fun k hk hf => h.block k hk (fun e => hf e.symm)⟩
theorem Upd.toGrown {w w' : World} {row : Option Nat} (h : Upd w w' (fun k => row = some k)) : w.grownBy w' row := ⟨h.os, h.tape, h.output, h.size, fun k hk hf => h.block k hk (fun e => hf e.symm)⟩
theorem Upd.trans {a b c : World} {F G : Nat → Prop} (h : Upd a b F) (k : Upd b c G) (hG : ∀ i, G i → F i ∨ a.heap.size ≤ i) : Upd a c F :=
  ⟨k.os.trans h.os, k.tape.trans h.tape, k.output.trans h.output, Nat.le_trans h.size k.size, fun i hi hf => (k.block i (Nat.lt_of_lt_of_le hi h.size) (fun hg => by
    rcases hG i hg with h' | h'
    · exact hf h'
    · omega)).trans (h.block i hi hf)⟩
theorem Upd.more {a b : World} {F G : Nat → Prop} (h : Upd a b F) (hF : ∀ i, F i → G i ∨ a.heap.size ≤ i) : Upd a b G :=
  ⟨h.os, h.tape, h.output, h.size, fun i hi hg => h.block i hi (fun hf => by rcases hF i hf with h' | h'; exact hg h'; omega)⟩
theorem Upd.drewN {a b : World} {F : Nat → Prop} (h : Upd a b F) (n : Nat) : Upd a (b.drewN n) F := ⟨h.os, h.tape, h.output, h.size, h.block⟩
theorem Upd.alloc {a b : World} {F : Nat → Prop} (h : Upd a b F) (o : Obj) : Upd a (b.alloc o) F :=
  h.trans (Upd.low (below_box b o) (fun _ => False)) (by simp)
theorem Upd.setCell {a b : World} {F : Nat → Prop} (h : Upd a b F) (p : Addr) (u : Value) (hp : F p.block ∨ a.heap.size ≤ p.block) : Upd a (b.setCell p u) F :=
  ⟨h.os, h.tape, h.output, by simpa [World.setCell] using h.size, fun i hi hf => (Below.heap_setCell _ _ _ _ (fun e => by
    subst e
    rcases hp with h' | h'
    · exact hf h'
    · omega)).trans (h.block i hi hf)⟩
theorem Upd.keepRd {w w' : World} {F : Nat → Prop} {B : Nat} {t : Tr} {v : Value} (h : Upd w w' F) (hr : Rd w B t v) (hB : B ≤ w.heap.size) (hF : ∀ k, F k → B ≤ k) : Rd w' B t v :=
  hr.low (h.toLow hB hF) (Nat.le_refl _)

theorem alloc_size (w : World) (o : Obj) : (w.alloc o).heap.size = w.heap.size + 1 := by simp
theorem alloc_get (w : World) (o : Obj) (k : Nat) : (w.alloc o).heap[k]? = if k = w.heap.size then some o else w.heap[k]? := by
  show (w.heap.push o)[k]? = _
  rw [Array.getElem?_push]

end Go.Proofs.Ytgmoneimfnackaa
