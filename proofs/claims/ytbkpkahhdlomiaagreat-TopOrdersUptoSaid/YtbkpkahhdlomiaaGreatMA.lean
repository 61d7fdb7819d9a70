/-
  Part 1 of the proof over the checker: walks and plain laws.
-/
import Derived.WalkKit
import Derived.WalkSpells
import Derived.WalkLawsBesides
import Derived.Lib.Hide
import Derived.Deep.QuietTactic
import Derived.BigQuiet
import Derived.Maps.AppendAt
import Derived.Carry
import Derived.Orders
import Derived.Deep.Upon
import Derived.OrdersHeld
import Derived.Test.YtbkpkahhdlomiaaGreatProg
import Derived.Deep.Cut
import Derived.Deep.CutRange
import Derived.Deep.CutBlock
import Derived.IntWalk
import Derived.Deep.RegionWith
import Derived.Deep.LoopGhost
import Derived.OneCell
import Derived.Laws.EntriesVeiled
import Derived.StillTailTactics
import Derived.Laws.IdiomCopy
import Derived.Deep.DeepAppendRoom
set_option maxRecDepth 100000
set_option maxHeartbeats 8000000
set_option linter.unusedSimpArgs false
set_option linter.unusedVariables false
namespace Go.Proofs.YtbkpkahhdlomiaaGreat
open Go.RowKit
theorem Lh {p : Prop} (h : p) : Hid p := Lib.hid h
inductive Tr where
 | leaf (v : Value)
 | sl (size : Nat) (rows : List (List Tr))
inductive Rd (w : World) (B : Nat) : Tr → Value → Prop
 | leaf (v : Value) : Rd w B (.leaf v) v
 | none_ (size : Nat) : Rd w B (.sl size []) (.slice none 0 0)
 | empty (size : Nat) (a : Addr) : Rd w B (.sl size []) (.slice (some a) 0 0)
 | row (size b off c : Nat) (rows : List (List Tr)) (us : Nat → Nat → Value) (hl : ∀ r ∈ rows, r.length = size) (hc : rows.length ≤ c) (hn : rows.length ≤ 140737488351232) (hm : c ≤ maxLen) (hb : b < B)
  (hcell : ∀ k j, k < rows.length → j < size → w.cell? ⟨b, off + k * size + j, none⟩ = some (us k j))
  (hr : ∀ k (h : k < rows.length) j (h' : j < rows[k].length), Rd w B rows[k][j] (us k j)) :
  Rd w B (.sl size rows) (.slice (some ⟨b, off, none⟩) rows.length c)
theorem Rd.keep {w w' : World} {B : Nat} {t : Tr} {v : Value} (h : Rd w B t v) (hk : ∀ p : Addr, p.block < B → w'.cell? p = w.cell? p) : Rd w' B t v := by
 induction h with
 | leaf v => exact .leaf v
 | none_ size => exact .none_ size
 | empty size a => exact .empty size a
 | row size b off c rows us hl hc hn hm hb hcell hr ih => exact .row size b off c rows us hl hc hn hm hb (fun k j hk' hj => (hk _ hb).trans (hcell k j hk' hj)) ih
theorem Rd.more {w : World} {B B' : Nat} {t : Tr} {v : Value} (h : Rd w B t v) (hB : B ≤ B') : Rd w B' t v := by
 induction h with
 | leaf v => exact .leaf v
 | none_ size => exact .none_ size
 | empty size a => exact .empty size a
 | row size b off c rows us hl hc hn hm hb hcell hr ih => exact .row size b off c rows us hl hc hn hm (by omega) hcell ih
theorem Rd.low {w w' : World} {B B' : Nat} {t : Tr} {v : Value} (h : Rd w B t v) (hb : Below B' w w') (hB : B ≤ B') : Rd w' B t v :=
 h.keep fun p hp => hb.cell (by omega)
theorem Rd.leaf_inv {w : World} {B : Nat} {u v : Value} (h : Rd w B (.leaf u) v) : v = u := by cases h; rfl
theorem Rd.sl_inv {w : World} {B size : Nat} {rows : List (List Tr)} {v : Value} (h : Rd w B (.sl size rows) v) :
 (rows = [] ∧ ∃ A, v = .slice A 0 0) ∨ ∃ (b off c : Nat) (us : Nat → Nat → Value), v = .slice (some ⟨b, off, none⟩) rows.length c ∧ rows.length ≤ c ∧ rows.length ≤ 140737488351232 ∧ c ≤ maxLen ∧ b < B ∧
   (∀ k j, k < rows.length → j < size → w.cell? ⟨b, off + k * size + j, none⟩ = some (us k j)) ∧ (∀ k (h : k < rows.length) j (h' : j < rows[k].length), Rd w B rows[k][j] (us k j)) := by
 cases h with
 | none_ => exact .inl ⟨rfl, _, rfl⟩
 | empty _ a => exact .inl ⟨rfl, _, rfl⟩
 | row _ b off c _ us hl hc hn hm hb hcell hr => exact .inr ⟨b, off, c, us, rfl, hc, hn, hm, hb, hcell, hr⟩
theorem below_box (w : World) (o : Obj) : Below w.heap.size w (w.alloc o) := (Below.refl _ _).alloc (Nat.le_refl _) _
theorem drewN_low {B : Nat} {a w : World} (h : Below B a w) (n : Nat) : Below B a (w.drewN n) := ⟨h.os, h.tape, h.output, h.size, h.block⟩
structure Upd (w w' : World) (F : Nat → Prop) : Prop where
 os : w'.os = w.os
 tape : w'.tape = w.tape
 output : w'.output = w.output
 size : w.heap.size ≤ w'.heap.size
 block : ∀ k, k < w.heap.size → ¬ F k → w'.heap[k]? = w.heap[k]?
theorem Upd.refl (w : World) (F : Nat → Prop) : Upd w w F := ⟨rfl, rfl, rfl, Nat.le_refl _, fun _ _ _ => rfl⟩
theorem Upd.low {w w' : World} (h : Below w.heap.size w w') (F : Nat → Prop) : Upd w w' F := ⟨h.os, h.tape, h.output, h.size, fun k hk _ => h.block k hk⟩
theorem Upd.toLow {w w' : World} {F : Nat → Prop} (h : Upd w w' F) {B : Nat} (hB : B ≤ w.heap.size) (hF : ∀ k, F k → B ≤ k) : Below B w w' :=
 ⟨h.os, h.tape, h.output, h.size, fun k hk => h.block k (by omega) (fun hf => by have := hF k hf; omega)⟩
theorem Upd.grown {w w' : World} {row : Option Nat} (h : w.grownBy w' row) : Upd w w' (fun k => row = some k) := ⟨h.os, h.tape, h.output, h.size, fun k hk hf => h.block k hk (fun e => hf e.symm)⟩
theorem Upd.trans {a b c : World} {F G : Nat → Prop} (h : Upd a b F) (k : Upd b c G) (hG : ∀ i, G i → F i ∨ a.heap.size ≤ i) : Upd a c F :=
 ⟨k.os.trans h.os, k.tape.trans h.tape, k.output.trans h.output, Nat.le_trans h.size k.size, fun i hi hf => (k.block i (Nat.lt_of_lt_of_le hi h.size) (fun hg => by
  rcases hG i hg with h' | h'
  · exact hf h'
  omega)).trans (h.block i hi hf)⟩
theorem Upd.more {a b : World} {F G : Nat → Prop} (h : Upd a b F) (hF : ∀ i, F i → G i ∨ a.heap.size ≤ i) : Upd a b G :=
 ⟨h.os, h.tape, h.output, h.size, fun i hi hg => h.block i hi (fun hf => by rcases hF i hf with h' | h'; exact hg h'; omega)⟩
theorem Upd.drewN {a b : World} {F : Nat → Prop} (h : Upd a b F) (n : Nat) : Upd a (b.drewN n) F := ⟨h.os, h.tape, h.output, h.size, h.block⟩
theorem Upd.alloc {a b : World} {F : Nat → Prop} (h : Upd a b F) (o : Obj) : Upd a (b.alloc o) F :=
 h.trans (Upd.low (below_box b o) (fun _ => False)) (by simp)
theorem Upd.setCell {a b : World} {F : Nat → Prop} (h : Upd a b F) (p : Addr) (u : Value) (hp : F p.block ∨ a.heap.size ≤ p.block) : Upd a (b.setCell p u) F :=
 ⟨h.os, h.tape, h.output, by simpa [World.setCell] using h.size, fun i hi hf => (Below.heap_setCell _ _ _ _ (fun e => by
  subst e
  rcases hp with h' | h'
  · exact hf h'
  omega)).trans (h.block i hi hf)⟩
theorem Upd.keepRd {w w' : World} {F : Nat → Prop} {B : Nat} {t : Tr} {v : Value} (h : Upd w w' F) (hr : Rd w B t v) (hB : B ≤ w.heap.size) (hF : ∀ k, F k → B ≤ k) : Rd w' B t v :=
 hr.low (h.toLow hB hF) (Nat.le_refl _)
theorem alloc_size (w : World) (o : Obj) : (w.alloc o).heap.size = w.heap.size + 1 := by simp
theorem alloc_get (w : World) (o : Obj) (k : Nat) : (w.alloc o).heap[k]? = if k = w.heap.size then some o else w.heap[k]? := by
 show (w.heap.push o)[k]? = _
 rw [Array.getElem?_push]
section
variable {P : Program} {ops : Array Oper} {Q : Exit → Act → World → Prop}
structure RegInv (V : Nat → Value → World → Prop) (D : Nat → Nat) (n : Nat) (T : Array Value) (ds : List Deferred) (W : World) (listed : Array Bool) (a : Act) (w : World) : Prop where
 sz : a.tmps.size = T.size
 df : a.defers = ds
 bel : Below W.heap.size W w
 fix : ∀ s, (∀ k, k < n → D k ≠ s) → a.tmps.getD s undef = T.getD s undef
 done : ∀ k, k < n → listed.getD k false = true → V k (a.tmps.getD (D k) undef) w
theorem RegInv.put {V : Nat → Value → World → Prop} {D : Nat → Nat} {n i : Nat} {T : Array Value} {ds : List Deferred} {W w w' : World} {listed : Array Bool} {a : Act} {v : Value} (h : RegInv V D n T ds W listed a w)
 (hV : ∀ k v, Below w.heap.size w w' → V k v w → V k v w') (hb : Below w.heap.size w w') (hi : i < n) (hd : ∀ k k', k < n → k' < n → D k = D k' → k = k') (hlt : D i < T.size) (hl : i < listed.size) (hv : V i v w') :
 RegInv V D n T ds W (listed.setIfInBounds i true) (a.put (some (D i)) v) w' := by
 have hg : ∀ s, (a.put (some (D i)) v).tmps.getD s undef = if s = D i then v else a.tmps.getD s undef := by
  intro s
  have hsz := h.sz
  simp only [Act.put]
  by_cases hs : s = D i
  · subst hs
    simp [hsz, hlt]
  rw [if_neg hs]
  simp [Array.getElem?_setIfInBounds_ne (Ne.symm hs)]
 refine ⟨by simp [Act.put, h.sz], by simp [Act.put, h.df], h.bel.trans (hb.mono h.bel.size), fun s hs => ?_, fun k hk hlk => ?_⟩
 · rw [hg, if_neg (fun e => hs i hi e.symm)]
   exact h.fix s hs
 rw [hg]
 by_cases hki : k = i
 · subst hki
   rw [if_pos rfl]
   exact hv
 rw [if_neg (fun e => hki (hd k i hk hi e))]
 refine hV k _ hb (h.done k hk ?_)
 rw [getD_set_ne false (Ne.symm hki)] at hlk
 exact hlk
theorem wp_value {o : Oper} {K : Act → World → Prop} {a : Act} {w w' : World} {v : Value} (h : (execOp a.eval o).run P w = .ok (.value v) w') (hk : K (a.put o.dst v) w') : o.wp P a w K Q := by
 unfold Oper.wp
 rw [h]
 exact hk
theorem wp_enter {o : Oper} {K : Act → World → Prop} {a : Act} {w w' : World} {f : FuncId} {args : Array Value} {R : Ending → World → Prop} (h : (execOp a.eval o).run P w = .ok (.enter f args) w') (hc : Calls P f args w' R)
 (hk : ∀ e w'', R e w'' → ∃ v, e = .returned v ∧ K (a.put o.dst v) w'') : o.wp P a w K Q := by
 unfold Oper.wp
 rw [h]
 refine Calls.mono hc fun e w'' hr => ?_
 obtain ⟨v, rfl, h⟩ := hk e w'' hr
 exact h
end
section
variable {P : Program} {ops : Array Oper} {Q : Exit → Act → World → Prop}
structure RegI (ops : Array Oper) (V : Nat → Value → World → Prop) (D : Nat → Nat) (T : Array Value) (ds : List Deferred) (W : World) (listed : Array Bool) (a : Act) (w : World) : Prop where
 sz : a.tmps.size = T.size
 df : a.defers = ds
 bel : Below W.heap.size W w
 fix : ∀ s, (∀ k, k < ops.size → D k ≠ s) → a.tmps.getD s undef = T.getD s undef
 old : ∀ k, k < ops.size → listed.getD k false = false → a.tmps.getD (D k) undef = T.getD (D k) undef
 done : ∀ k, k < ops.size → listed.getD k false = true → V k (a.tmps.getD (D k) undef) w
 cl : ∀ k o, ops[k]? = some o → listed.getD k false = true → ∀ e ∈ o.after, Region.binds .any e = true → listed.getD e.on false = true
theorem RegI.before {V : Nat → Value → World → Prop} {D : Nat → Nat} {T : Array Value} {ds : List Deferred} {W w : World} {listed : Array Bool} {a : Act} (h : RegI ops V D T ds W listed a w) {i k : Nat} {o : Oper}
 (hk : ops[k]? = some o) (he : ∃ e ∈ o.after, e.on = i ∧ Region.binds .any e = true) (hl : listed.getD i false = false) : a.tmps.getD (D k) undef = T.getD (D k) undef := by
 refine h.old k (Array.getElem?_eq_some_iff.1 hk).1 ?_
 cases hb : listed.getD k false with
 | false => rfl
 | true =>
   obtain ⟨e, he1, rfl, he3⟩ := he
   rw [h.cl k o hk hb e he1 he3] at hl
   cases hl
end
section
variable {P : Program} {ops : Array Oper} {Q : Exit → Act → World → Prop}
structure RegG (ops : Array Oper) (V : Nat → Value → Prop) (D : Nat → Option Nat) (T : Array Value) (ds : List Deferred) (listed : Array Bool) (a : Act) : Prop where
 sz : a.tmps.size = T.size
 df : a.defers = ds
 fix : ∀ s, (∀ k, k < ops.size → D k ≠ some s) → a.tmps.getD s undef = T.getD s undef
 old : ∀ k s, k < ops.size → D k = some s → listed.getD k false = false → a.tmps.getD s undef = T.getD s undef
 done : ∀ k s, k < ops.size → D k = some s → listed.getD k false = true → V k (a.tmps.getD s undef)
 cl : ∀ k o, ops[k]? = some o → listed.getD k false = true → ∀ e ∈ o.after, Region.binds .any e = true → listed.getD e.on false = true
theorem RegG.before {V : Nat → Value → Prop} {D : Nat → Option Nat} {T : Array Value} {ds : List Deferred} {listed : Array Bool} {a : Act} (h : RegG ops V D T ds listed a) {i k s : Nat} {o : Oper}
 (hk : ops[k]? = some o) (hd : D k = some s) (he : ∃ e ∈ o.after, e.on = i ∧ Region.binds .any e = true) (hl : listed.getD i false = false) : a.tmps.getD s undef = T.getD s undef := by
 refine h.old k s (Array.getElem?_eq_some_iff.1 hk).1 hd ?_
 cases hb : listed.getD k false with
 | false => rfl
 | true =>
   obtain ⟨e, he1, rfl, he3⟩ := he
   rw [h.cl k o hk hb e he1 he3] at hl
   cases hl
theorem flag_ne {l : Array Bool} {i k : Nat} (h : i ≠ k) : (l.setIfInBounds i true).getD k false = l.getD k false := getD_set_ne false h
end
def Own (w : World) (base : Nat) (e : TypeId) (size : Nat) (v : Value) (rows : List (List Value)) : Prop :=
 w.ownsRow base e size v rows.length rows.flatten ∧ ∀ r ∈ rows, r.length = size
structure SliceTy (P : Program) (t e : TypeId) (size bytes : Nat) : Prop where
 ht : P.underlying t = some (.slice e)
 hi : ∃ i z, P.info? e = some i ∧ i.zero = some z ∧ i.size = size ∧ i.bytes = bytes ∧ z.cells.size = size
 hs : 0 < size
theorem sliceTy {P : Program} {t e : TypeId} {z : Value} {size bytes : Nat} (ht : P.underlying t = some (.slice e)) (h : (P.info? e).map (fun i => (i.zero, i.size, i.bytes)) = some (some z, size, bytes))
 (hz : z.cells.size = size) (hs : 0 < size) : SliceTy P t e size bytes := by
 obtain ⟨i, h1, h2, h3, h4⟩ := info_parts h
 exact ⟨ht, ⟨i, z, h1, h2, h3, h4, hz⟩, hs⟩
section
variable {w w' : World} {base size : Nat} {e : TypeId} {v : Value} {rows : List (List Value)}
theorem Own.nil (w : World) (base : Nat) (e : TypeId) (size : Nat) : Own w base e size (.slice none 0 0) [] := ⟨World.ownsRow_nil w base e size, by simp⟩
theorem Own.lt (h : Own w base e size v rows) : ∀ g, v.ownBlock = some g → base ≤ g ∧ g < w.heap.size := h.1.lt
theorem Own.upd {F : Nat → Prop} (h : Own w base e size v rows) (hu : Upd w w' F) (hF : ∀ g, v.ownBlock = some g → ¬ F g) : Own w' base e size v rows := by
 refine ⟨?_, h.2⟩
 obtain ⟨hl, hr⟩ := h.1
 refine ⟨hl, ?_⟩
 rcases hr with hr | ⟨g, cap, cur, hv, hb, hg, hc⟩
 · exact .inl hr
 refine .inr ⟨g, cap, cur, hv, hb, ?_, hc⟩
 rw [hu.block g (Array.getElem?_eq_some_iff.1 hg).1 (hF g (by rw [hv]; rfl))]
 exact hg
theorem Own.low (h : Own w base e size v rows) (hb : Below w.heap.size w w') : Own w' base e size v rows := h.upd (Upd.low hb (fun _ => False)) (by simp)
theorem Own.alloc (h : Own w base e size v rows) (o : Obj) : Own (w.alloc o) base e size v rows := h.low (below_box w o)
theorem Own.drewN (h : Own w base e size v rows) (n : Nat) : Own (w.drewN n) base e size v rows := h
theorem Own.base_le {base' : Nat} (h : Own w base e size v rows) (hb : base' ≤ base) : Own w base' e size v rows := by
 refine ⟨⟨h.1.1, ?_⟩, h.2⟩
 rcases h.1.2 with hr | ⟨g, cap, cur, hv, hb', hg, hc⟩
 · exact .inl hr
 exact .inr ⟨g, cap, cur, hv, Nat.le_trans hb hb', hg, hc⟩
theorem Own.ne_cells {b : Nat} {cs : Array Value} {t : TypeId} {fr : Nat × Nat} (h : Own w base e size v rows) (hb : w.heap[b]? = some (.cells cs t fr)) (hne : t ≠ e) : v.ownBlock ≠ some b := by
 intro hv
 rcases h.1.2 with ⟨rfl, _⟩ | ⟨g, cap, cur, rfl, _, hg, _⟩
 · cases hv
 injection hv with hv
 simp only at hv
 subst hv
 rw [hg] at hb
 injection hb with hb
 injection hb with _ ht
 exact hne ht.symm
theorem Own.ne_own {base' size' : Nat} {e' : TypeId} {v' : Value} {rows' : List (List Value)} (h : Own w base e size v rows) (h' : Own w base' e' size' v' rows') (hne : e ≠ e') (g : Nat) (hg : v.ownBlock = some g) : v'.ownBlock ≠ some g := by
 rcases h.1.2 with ⟨rfl, _⟩ | ⟨g', cap, cur, rfl, _, hh, _⟩
 · cases hg
 injection hg with hg
 simp only at hg
 subst hg
 exact h'.ne_cells hh hne
theorem Own.form (h : Own w base e size v rows) : ∃ A c, v = .slice A rows.length c ∧ rows.length ≤ c ∧ c ≤ maxLen := by
 rcases h.1.2 with ⟨rfl, hn⟩ | ⟨g, cap, cur, hv, hb, hg, hnc, hcm, _⟩
 · rw [hn]; exact ⟨none, 0, rfl, Nat.le_refl _, Nat.zero_le _⟩
 exact ⟨_, cap, hv, hnc, hcm⟩
theorem flatten_at {α : Type} (rows : List (List α)) (size : Nat) (hr : ∀ r ∈ rows, r.length = size) (k j : Nat) (hk : k < rows.length) (hj : j < size) :
 rows.flatten[k * size + j]? = some (rows[k][j]'(by rw [hr _ (List.getElem_mem hk)]; exact hj)) := by
 induction rows generalizing k with
 | nil => simp at hk
 | cons r rows ih =>
   have h0 : r.length = size := hr r (by simp)
   cases k with
   | zero =>
     simp only [List.flatten_cons, Nat.zero_mul, Nat.zero_add, List.getElem_cons_zero]
     rw [List.getElem?_append_left (by omega)]
     exact List.getElem?_eq_getElem (by omega)
   | succ k =>
     simp only [List.flatten_cons, List.getElem_cons_succ]
     rw [List.getElem?_append_right (by rw [h0, Nat.succ_mul]; omega)]
     rw [← ih (fun r hr' => hr r (by simp [hr'])) k (by simpa using hk)]
     congr 1
     rw [h0, Nat.succ_mul]; omega
theorem Own.cell {k j : Nat} (h : Own w base e size v rows) (hk : k < rows.length) (hj : j < size) :
 ∃ g c, v = .slice (some ⟨g, 0, none⟩) rows.length c ∧ base ≤ g ∧ g < w.heap.size ∧ w.cell? ⟨g, k * size + j, none⟩ = some (rows[k][j]'(by rw [h.2 _ (List.getElem_mem hk)]; exact hj)) ∧ w.frozen? ⟨g, k * size + j, none⟩ = false := by
 rcases h.1.2 with ⟨_, hn⟩ | ⟨g, cap, cur, hv, hb, hg, hnc, hcm, hcs, htake⟩
 · omega
 refine ⟨g, cap, hv, hb, (Array.getElem?_eq_some_iff.1 hg).1, ?_, frozen_of_row w g _ cur e hg⟩
 rw [cell_of_row w g _ cur e (0, 0) hg, ← Array.getElem?_toList, ← flatten_at rows size h.2 k j hk hj, ← htake, List.getElem?_take, if_pos]
 have : (k + 1) * size ≤ rows.length * size := Nat.mul_le_mul_right _ hk
 rw [Nat.succ_mul] at this
 omega
theorem Own.row_at {n c k : Nat} {A : Option Addr} (h : Own w base e size (.slice A n c) rows) (hk : k < rows.length) (hs : 0 < size) :
 ∃ g, A = some ⟨g, 0, none⟩ ∧ base ≤ g ∧ g < w.heap.size ∧ (∀ j (hj : j < size), w.cell? ⟨g, k * size + j, none⟩ = some (rows[k][j]'(by rw [h.2 _ (List.getElem_mem hk)]; exact hj))) ∧ (∀ j, j < size → w.frozen? ⟨g, k * size + j, none⟩ = false) := by
 obtain ⟨g, c', hv, hb, hg, _⟩ := h.cell hk hs
 injection hv with hA _ _
 refine ⟨g, hA, hb, hg, fun j hj => ?_, fun j hj => ?_⟩
 all_goals
  obtain ⟨g1, c1, hv1, _, _, hc1, hf1⟩ := h.cell hk hj
  injection hv1 with hA1 _ _
  rw [hA] at hA1
  injection hA1 with hA1
  injection hA1 with hA1 _ _
  subst hA1
  first | exact hc1 | exact hf1
theorem Own.rd (h : Own w base e size v rows) (hn : rows.length ≤ 140737488351232) : Rd w w.heap.size (.sl size (rows.map fun r => r.map .leaf)) v := by
 rcases h.1.2 with ⟨rfl, hn⟩ | ⟨g, cap, cur, hv, hb, hg, hnc, hcm, hcs, htake⟩
 · have : rows = [] := List.eq_nil_of_length_eq_zero hn
   subst this
   exact .none_ _
 have hlt : g < w.heap.size := (Array.getElem?_eq_some_iff.1 hg).1
 have := Rd.row (w := w) (B := w.heap.size) size g 0 cap (rows.map fun r => r.map .leaf) (fun k j => ((rows[k]?.getD [])[j]?).getD undef)
  (by intro r hr; obtain ⟨r', hr', rfl⟩ := List.mem_map.1 hr; rw [List.length_map]; exact h.2 r' hr')
  (by simpa using hnc) (by simpa using hn) hcm hlt
  (by
    intro k j hk hj
    rw [List.length_map] at hk
    obtain ⟨g', c', hv', _, _, hc', _⟩ := h.cell hk hj
    rw [hv] at hv'
    injection hv' with hA _ _
    injection hA with hA
    injection hA with hA _ _
    subst hA
    rw [Nat.zero_add, hc']
    have hjl : j < rows[k].length := by rw [h.2 _ (List.getElem_mem hk)]; exact hj
    simp [hk, hjl])
  (by
    intro k hk j hj
    simp only [List.length_map] at hk
    simp only [List.getElem_map, List.length_map] at hj ⊢
    have : ((rows[k]?.getD [])[j]?).getD undef = rows[k][j] := by simp [hk, hj]
    rw [this]
    exact .leaf _)
 rw [List.length_map] at this
 rw [hv]
 exact this
end
theorem Own.set1 {w : World} {base g n c j : Nat} {e : TypeId} {rows : List Value} (h : Own w base e 1 (.slice (some ⟨g, 0, none⟩) n c) (rows.map fun u => [u])) (u : Value) :
 Own (w.setCell ⟨g, j, none⟩ u) base e 1 (.slice (some ⟨g, 0, none⟩) n c) ((rows.set j u).map fun u => [u]) := by
 have hn : n = rows.length := by
  obtain ⟨A, c', hv, _⟩ := h.form
  injection hv with _ hn _
  simpa using hn
 subst hn
 have hfl : ∀ l : List Value, (l.map fun u => [u]).flatten = l := fun l => by induction l with | nil => rfl | cons a l ih => simp [ih]
 refine ⟨?_, by intro r hr; obtain ⟨u', _, rfl⟩ := List.mem_map.1 hr; rfl⟩
 have h1 := h.1
 rw [List.length_map, hfl] at h1
 have := (h1.stored j u).1
 rw [List.length_map, hfl, List.length_set]
 exact this
section
variable {P : Program} (w : World)
theorem wpList_push {ops : Array Oper} {rest : List Oper} {o : Oper} {a : Act} {Q : Exit → Act → World → Prop} (hgd : o.guard = none) (s x : Operand) (t : TypeId)
 (ho : o.op = .call { callee := .builtin .append, args := #[s, x], argTypes := #[t, t] })
 {e : TypeId} {size bytes : Nat} (hT : SliceTy P t e size bytes)
 {base : Nat} {v : Value} {rows : List (List Value)} (hs : a.eval s = v) (hown : Own w base e size v rows)
 {g : Nat} {cells : Array Value} {te : TypeId} (hx : a.eval x = .slice (some ⟨g, 0, none⟩) 1 1) (hg : w.heap[g]? = some (.cells cells te (0, 0))) (hcs : cells.size = size) (h1 : ∀ u ∈ cells.toList, u.oneCell' = true)
 (hbytes : (rows.length + 1) * bytes ≤ 140737488355328) (h63 : rows.length + 1 ≤ maxLen) (hbase : base ≤ w.heap.size)
 (h : ∀ v' w', Own w' base e size v' (rows ++ [cells.toList]) → Upd w w' (fun k => v.ownBlock = some k) → (v'.ownBlock = v.ownBlock ∨ v'.ownBlock = some w.heap.size) → wpList P ops Q rest (a.put o.dst v') w') :
 wpList P ops Q (o :: rest) a w := by
 obtain ⟨i, z, hi, hz, hsize, hby, hzs⟩ := hT.hi
 refine wpList_append_own_at (P := P) w hgd s x t ho base e i z size bytes hT.ht hi hz hsize hby hzs hT.hs v rows.length rows.flatten hs hown.1 ⟨g, 0, none⟩ 1 1 cells.toList hx
  (by rw [Nat.one_mul, Array.length_toList]; exact hcs) ?_ h1 h63 hbytes hbase ?_
 · intro j u hu
   have hadd : (⟨g, 0, none⟩ : Addr).add j = ⟨g, j, none⟩ := by unfold Addr.add; split <;> simp_all
   rw [hadd, cell_of_row w g j cells te (0, 0) hg, ← Array.getElem?_toList]
   exact hu
 intro v' w' hown' hgr _ hat
 refine h v' w' ⟨?_, ?_⟩ (Upd.grown hgr) hat
 · rw [List.length_append, List.flatten_append]
   simpa using hown'
 intro r hr
 rcases List.mem_append.1 hr with h | h
 · exact hown.2 r h
 rw [List.mem_singleton.1 h, Array.length_toList]; exact hcs
end
inductive RdP (w : World) (P : Nat → Prop) : Tr → Value → Prop
 | leaf (v : Value) : RdP w P (.leaf v) v
 | none_ (size : Nat) : RdP w P (.sl size []) (.slice none 0 0)
 | empty (size : Nat) (a : Addr) : RdP w P (.sl size []) (.slice (some a) 0 0)
 | row (size b off c : Nat) (rows : List (List Tr)) (us : Nat → Nat → Value) (hl : ∀ r ∈ rows, r.length = size) (hc : rows.length ≤ c) (hn : rows.length ≤ 140737488351232) (hm : c ≤ maxLen) (hb : P b) (hlt : b < w.heap.size)
  (hcell : ∀ k j, k < rows.length → j < size → w.cell? ⟨b, off + k * size + j, none⟩ = some (us k j))
  (hr : ∀ k (h : k < rows.length) j (h' : j < rows[k].length), RdP w P rows[k][j] (us k j)) :
  RdP w P (.sl size rows) (.slice (some ⟨b, off, none⟩) rows.length c)
section
variable {w w' : World} {P P' : Nat → Prop} {t : Tr} {v : Value}
theorem RdP.keep (h : RdP w P t v) (hz : w.heap.size ≤ w'.heap.size) (hk : ∀ p : Addr, P p.block → p.block < w.heap.size → w'.cell? p = w.cell? p) : RdP w' P t v := by
 induction h with
 | leaf v => exact .leaf v
 | none_ size => exact .none_ size
 | empty size a => exact .empty size a
 | row size b off c rows us hl hc hn hm hb hlt hcell hr ih => exact .row size b off c rows us hl hc hn hm hb (Nat.lt_of_lt_of_le hlt hz) (fun k j hk' hj => (hk _ hb hlt).trans (hcell k j hk' hj)) ih
theorem RdP.more (h : RdP w P t v) (hP : ∀ b, P b → b < w.heap.size → P' b) : RdP w P' t v := by
 induction h with
 | leaf v => exact .leaf v
 | none_ size => exact .none_ size
 | empty size a => exact .empty size a
 | row size b off c rows us hl hc hn hm hb hlt hcell hr ih => exact .row size b off c rows us hl hc hn hm (hP b hb hlt) hlt hcell ih
theorem RdP.upd {F : Nat → Prop} (h : RdP w P t v) (hu : Upd w w' F) (hF : ∀ b, P b → b < w.heap.size → ¬ F b) : RdP w' P t v :=
 h.keep hu.size fun _ hp hl => World.cell?_of_block (hu.block _ hl (hF _ hp hl))
theorem RdP.low (h : RdP w P t v) (hb : Below w.heap.size w w') : RdP w' P t v := h.keep hb.size fun _ _ hl => hb.cell hl
theorem RdP.rd {B : Nat} (h : RdP w P t v) (hP : ∀ b, P b → b < w.heap.size → b < B) : Rd w B t v := by
 induction h with
 | leaf v => exact .leaf v
 | none_ size => exact .none_ size
 | empty size a => exact .empty size a
 | row size b off c rows us hl hc hn hm hb hlt hcell hr ih => exact .row size b off c rows us hl hc hn hm (hP b hb hlt) hcell ih
theorem RdP.rd' (h : RdP w P t v) : Rd w w.heap.size t v := h.rd fun _ _ h => h
theorem Rd.rdP {B : Nat} (h : Rd w B t v) (hB : B ≤ w.heap.size) : RdP w (fun b => b < B) t v := by
 induction h with
 | leaf v => exact .leaf v
 | none_ size => exact .none_ size
 | empty size a => exact .empty size a
 | row size b off c rows us hl hc hn hm hb hcell hr ih => exact .row size b off c rows us hl hc hn hm hb (by omega) hcell ih
theorem RdP.leaf_inv {u : Value} (h : RdP w P (.leaf u) v) : v = u := by cases h; rfl
end
theorem upd_set {w : World} {b o : Nat} (u : Value) : Upd w (w.setCell ⟨b, o, none⟩ u) (fun k => k = b) := (Upd.refl w _).setCell _ _ (.inl rfl)
def NbP (M : Nat → Prop) (base : Nat) (b : Nat) : Prop := M b ∨ base ≤ b
def OwnR (w : World) (M : Nat → Prop) (base : Nat) (e : TypeId) (size : Nat) (v : Value) (trs : List (List Tr)) : Prop :=
 ∃ rows : List (List Value), Own w base e size v rows ∧ rows.length = trs.length ∧ (∀ r ∈ trs, r.length = size) ∧
   ∀ k (h : k < trs.length) (h2 : k < rows.length) j (h' : j < trs[k].length) (h3 : j < rows[k].length), RdP w (fun b => NbP M base b ∧ v.ownBlock ≠ some b) trs[k][j] rows[k][j]
section
variable {w w' : World} {M : Nat → Prop} {base size : Nat} {e : TypeId} {v : Value} {trs : List (List Tr)}
theorem OwnR.nil (w : World) (M : Nat → Prop) (base : Nat) (e : TypeId) (size : Nat) : OwnR w M base e size (.slice none 0 0) [] := ⟨[], Own.nil _ _ _ _, rfl, by simp, fun k h => by simp at h⟩
theorem OwnR.form (h : OwnR w M base e size v trs) : ∃ A c, v = .slice A trs.length c ∧ trs.length ≤ c ∧ c ≤ maxLen := by
 obtain ⟨rows, ho, hl, _⟩ := h
 obtain ⟨A, c, h1, h2, h3⟩ := ho.form
 rw [hl] at h1 h2
 exact ⟨A, c, h1, h2, h3⟩
theorem OwnR.lt (h : OwnR w M base e size v trs) : ∀ g, v.ownBlock = some g → base ≤ g ∧ g < w.heap.size := by
 obtain ⟨rows, ho, _⟩ := h
 exact ho.lt
theorem OwnR.upd {F : Nat → Prop} (h : OwnR w M base e size v trs) (hu : Upd w w' F) (hF : ∀ b, NbP M base b → b < w.heap.size → ¬ F b) : OwnR w' M base e size v trs := by
 obtain ⟨rows, ho, hl, hr, hc⟩ := h
 exact ⟨rows, ho.upd hu (fun g hg hf => hF g (.inr (ho.lt g hg).1) (ho.lt g hg).2 hf), hl, hr, fun k h1 h2 j h3 h4 => (hc k h1 h2 j h3 h4).upd hu fun b hb hlt => hF b hb.1 hlt⟩
theorem OwnR.low (h : OwnR w M base e size v trs) (hb : Below w.heap.size w w') : OwnR w' M base e size v trs := h.upd (Upd.low hb (fun _ => False)) (by simp)
theorem OwnR.rd (h : OwnR w M base e size v trs) (hn : trs.length ≤ 140737488351232) : RdP w (NbP M base) (.sl size trs) v := by
 obtain ⟨rows, ho, hl, hr, hc⟩ := h
 have hlt := ho.lt
 rcases ho.1.2 with ⟨rfl, h0⟩ | ⟨g, cap, cur, hv, hb, hg, hnc, hcm, hcs, htake⟩
 · have : trs = [] := List.eq_nil_of_length_eq_zero (by omega)
   subst this
   exact .none_ _
 have hown : v.ownBlock = some g := by rw [hv]; rfl
 have := RdP.row (w := w) (P := NbP M base) size g 0 cap trs (fun k j => ((rows[k]?.getD [])[j]?).getD undef) hr (by omega) hn hcm (.inr hb) (hlt g hown).2
  (by
    intro k j hk hj
    obtain ⟨g', c', hv', _, _, hc', _⟩ := ho.cell (k := k) (j := j) (by omega) hj
    rw [hv] at hv'
    injection hv' with hA _ _
    injection hA with hA
    injection hA with hA _ _
    subst hA
    rw [Nat.zero_add, hc']
    have hk' : k < rows.length := by omega
    have hjl : j < rows[k].length := by rw [ho.2 _ (List.getElem_mem hk')]; exact hj
    simp [hk', hjl])
  (by
    intro k hk j hj
    have hk' : k < rows.length := by omega
    have hj' : j < rows[k].length := by rw [ho.2 _ (List.getElem_mem hk'), ← hr _ (List.getElem_mem hk)]; exact hj
    have h2 := (hc k hk hk' j hj hj').more (P' := NbP M base) fun b hb _ => hb.1
    have : ((rows[k]?.getD [])[j]?).getD undef = rows[k][j] := by simp [hk', hj']
    rw [this]
    exact h2)
 rw [hv, hl]
 exact this
end
section
variable {P : Program} (w : World)
theorem wpList_pushR {ops : Array Oper} {rest : List Oper} {o : Oper} {a : Act} {Q : Exit → Act → World → Prop} (hgd : o.guard = none) (s x : Operand) (t : TypeId)
 (ho : o.op = .call { callee := .builtin .append, args := #[s, x], argTypes := #[t, t] })
 {e : TypeId} {size bytes : Nat} (hT : SliceTy P t e size bytes)
 {M : Nat → Prop} {base : Nat} {v : Value} {trs : List (List Tr)} (hs : a.eval s = v) (hown : OwnR w M base e size v trs)
 {g : Nat} {cells : Array Value} {te : TypeId} (hx : a.eval x = .slice (some ⟨g, 0, none⟩) 1 1) (hg : w.heap[g]? = some (.cells cells te (0, 0))) (hcs : cells.size = size) (h1 : ∀ u ∈ cells.toList, u.oneCell' = true)
 (hbytes : (trs.length + 1) * bytes ≤ 140737488355328) (h63 : trs.length + 1 ≤ maxLen) (hbase : base ≤ w.heap.size)
 (r : List Tr) (hrl : r.length = size) (hr : ∀ j (h : j < r.length) (h' : j < cells.toList.length), RdP w (fun b => NbP M base b ∧ v.ownBlock ≠ some b) r[j] cells.toList[j])
 (h : ∀ v' w', OwnR w' M base e size v' (trs ++ [r]) → Upd w w' (fun k => v.ownBlock = some k) → (v'.ownBlock = v.ownBlock ∨ v'.ownBlock = some w.heap.size) → wpList P ops Q rest (a.put o.dst v') w') :
 wpList P ops Q (o :: rest) a w := by
 obtain ⟨rows, ho', hl, hlr, hc⟩ := hown
 refine wpList_push w hgd s x t ho hT hs ho' hx hg hcs h1 (by rw [hl]; exact hbytes) (by rw [hl]; exact h63) hbase ?_
 intro v' w' hown' hup hat
 refine h v' w' ⟨_, hown', by simp [hl], ?_, ?_⟩ hup hat
 · intro r' hr'
   rcases List.mem_append.1 hr' with h | h
   · exact hlr _ h
   rw [List.mem_singleton.1 h]; exact hrl
 have key : ∀ {t : Tr} {u : Value}, RdP w (fun b => NbP M base b ∧ v.ownBlock ≠ some b) t u → RdP w' (fun b => NbP M base b ∧ v'.ownBlock ≠ some b) t u := fun hh =>
  ((hh.upd hup (fun b hb _ => hb.2)).keep (Nat.le_refl _) (fun _ _ _ => rfl)) |> fun h2 => by
    have h3 := hh.more (P' := fun b => (NbP M base b ∧ v.ownBlock ≠ some b) ∧ v'.ownBlock ≠ some b) (fun b hb hlt => ⟨hb, by
     rcases hat with h4 | h4
     · rw [h4]; exact hb.2
     rw [h4]; intro e; injection e with e; omega⟩)
    exact (h3.upd hup (fun b hb _ => hb.1.2)).more fun b hb _ => ⟨hb.1.1, hb.2⟩
 intro k hk hk2 j hj hj2
 by_cases hkl : k < trs.length
 · have hkr : k < rows.length := by omega
   have e1 : (trs ++ [r])[k] = trs[k] := List.getElem_append_left hkl
   have e2 : (rows ++ [cells.toList])[k] = rows[k] := List.getElem_append_left hkr
   have := key (hc k hkl hkr j (by rw [e1] at hj; exact hj) (by rw [e2] at hj2; exact hj2))
   simpa only [e1, e2] using this
 have hke : k = trs.length := by simp at hk; omega
 subst hke
 have e1 : (trs ++ [r])[trs.length] = r := by simp
 have e2 : (rows ++ [cells.toList])[trs.length] = cells.toList := by simp [← hl]
 have := key (hr j (by rw [e1] at hj; exact hj) (by rw [e2] at hj2; exact hj2))
 simpa only [e1, e2] using this
end
theorem RdP.one {w : World} {P : Nat → Prop} {t : Tr} {v : Value} (h : RdP w P t v) (hl : ∀ y, t = .leaf y → y.oneCell' = true) : v.oneCell' = true := by
 cases h with
 | leaf v => exact hl v rfl
 | none_ size => rfl
 | empty size a => rfl
 | row size b off c rows us hl hc hn hm hb hlt hcell hr => rfl
theorem OwnR.empty {w : World} {M : Nat → Prop} {base g : Nat} {e : TypeId} {size : Nat} (hg : w.heap[g]? = some (.cells #[] e (0, 0))) (hb : base ≤ g) : OwnR w M base e size (.slice (some ⟨g, 0, none⟩) 0 0) [] :=
 ⟨[], ⟨⟨by simp, .inr ⟨g, 0, #[], rfl, hb, hg, Nat.le_refl _, Nat.zero_le _, by simp, by simp⟩⟩, by simp⟩, rfl, by simp, fun k h => by simp at h⟩
section
variable {P : Program} (w : World)
end
section
variable {P : Program} {ops : Array Oper} {Q Q' : Exit → Act → World → Prop}
theorem wp_exits {o : Oper} {a : Act} {w : World} {K : Act → World → Prop} (hp : ∀ c a w, Q (.panic c) a w → Q' (.panic c) a w) (hL : LetsOut Q → LetsOut Q') (hh : o.wp P a w K Q) : o.wp P a w K Q' := by
 unfold Oper.wp at *
 generalize (execOp a.eval o).run P w = r at *
 cases r with
 | ok n w' =>
   cases n <;> simp only [Oper.upon] at hh ⊢ <;>
    first
     | exact hh
     | exact Calls.mono hh (fun e w'' he => by cases e <;> first | exact he | exact hp _ _ _ he | exact hL he)
 | halt x w' => cases x <;> simp only [Oper.upon] at hh ⊢ <;> first | exact hh | exact hp _ _ _ hh
def thenK (K : Act → World → Prop) (Q : Exit → Act → World → Prop) : Exit → Act → World → Prop
 | .normal, a, w => K a w
 | e, a, w => Q e a w
end
section
variable {P : Program} {ops : Array Oper} {Q : Exit → Act → World → Prop} {S : Array Bool → World → Prop}
def ClosedL (ops : Array Oper) (listed : Array Bool) : Prop :=
 ∀ k o, ops[k]? = some o → listed.getD k true = true → ∀ e ∈ o.after, Region.binds .any e = true → listed.getD e.on false = true
def closedB (ops : Array Oper) (listed : Array Bool) : Bool :=
 (List.range ops.size).all fun k => !listed.getD k true || ((ops[k]?).map (·.after.all fun e => !Region.binds .any e || listed.getD e.on false)).getD true
theorem closedB_spec {listed : Array Bool} (h : closedB ops listed = true) : ClosedL ops listed := by
 intro k o ho hl e he hb
 unfold closedB at h
 rw [List.all_eq_true] at h
 have h1 := h k (List.mem_range.2 (Array.getElem?_eq_some_iff.1 ho).1)
 rw [hl, ho] at h1
 simp only [Bool.not_true, Bool.false_or, Option.map_some, Option.getD_some, Array.all_eq_true_iff_forall_mem] at h1
 have h2 := h1 e he
 rw [hb] at h2
 simpa using h2
theorem closed_ready {listed : Array Bool} {j : Nat} (hc : ClosedL ops listed) (hj : j ∈ Region.ready .any ops listed) : ClosedL ops (listed.setIfInBounds j true) := by
 intro k o ho hl e he hb
 by_cases hkj : j = k
 · subst hkj
   obtain ⟨_, o', ho', hall⟩ := mem_ready.1 hj
   rw [ho] at ho'
   injection ho' with ho'
   subst ho'
   exact getD_set_true (hall e he hb)
 rw [getD_set_ne true hkj] at hl
 exact getD_set_true (hc k o ho hl e he hb)
def NoWaiter (ops : Array Oper) (i : Nat) (L : Array Bool) : Prop := ∀ j oj, ops[j]? = some oj → (∃ e ∈ oj.after, Region.binds .any e = true ∧ e.on = i) → L.getD j true = false
def wpAnyS (P : Program) (ops : Array Oper) (Q : Exit → Act → World → Prop) (S : Array Bool → World → Prop) : Nat → Array Bool → Act → World → Prop
 | 0, listed, a, w => Region.ready .any ops listed = [] ∧ Q .normal a w
 | fuel + 1, listed, a, w =>
   (Region.ready .any ops listed = [] → Q .normal a w) ∧
   ∀ i ∈ Region.ready .any ops listed, wpOp P ops Q i (fun a' w' => S (listed.setIfInBounds i true) w' ∧ wpAnyS P ops Q S fuel (listed.setIfInBounds i true) a' w') a w
theorem wpAny_of_S : ∀ (fuel : Nat) (listed : Array Bool) (a : Act) (w : World), wpAnyS P ops Q S fuel listed a w → wpAny P .any ops Q fuel listed a w
 | 0, _, _, _, h => h
 | fuel + 1, _, _, _, h => ⟨h.1, fun i hi => wpOp_mono (fun a' w' h' => wpAny_of_S fuel _ a' w' h'.2) (h.2 i hi)⟩
def Before (ops : Array Oper) (S : Array Bool → World → Prop) (i : Nat) (w : World) : Prop := ∃ L, NoWaiter ops i L ∧ S L w
theorem wpAnyS_first {i : Nat} {oi : Oper} {v : Value} (hi : ops[i]? = some oi) (hsel : ∀ (j : Nat) (o : Oper) cs b, ops[j]? = some o → o.op ≠ .select cs b)
 (hQ : ∀ c a w, Q (.panic c) (a.put oi.dst v) w → Q (.panic c) a w) (hins : ∀ L w, S (L.setIfInBounds i true) w ↔ S L w) :
 ∀ (fuel : Nat) (listed : Array Bool) (a : Act) (w : World), ClosedL ops listed →
   (∀ j oj, ops[j]? = some oj → j ≠ i → listed.getD j true = false → (∀ e ∈ oj.after, Region.binds .any e = true → e.on ≠ i) → oi.apart ops oj = true) →
   i ∈ Region.ready .any ops listed → YieldsIf P ops (Before ops S i) oi v a → S listed w →
   wpAnyS P ops Q S fuel (listed.setIfInBounds i true) (a.put oi.dst v) w → wpAnyS P ops Q S (fuel + 1) listed a w := by
 intro fuel
 have hB : ∀ listed w, ClosedL ops listed → i ∈ Region.ready .any ops listed → S listed w → Before ops S i w := by
  intro listed w hc hr hS
  refine ⟨listed, fun j oj hj hw => ?_, hS⟩
  obtain ⟨e, he, hb, hon⟩ := hw
  cases hlj : listed.getD j true with
  | false => rfl
  | true =>
    have h1 := hc j oj hj hlj e he hb
    have h0 := (mem_ready.1 hr).1
    rw [hon] at h1
    rcases Nat.lt_or_ge i listed.size with h' | h'
    · simp [h'] at h0 h1; rw [h0] at h1; cases h1
    simp [Array.getElem?_eq_none h'] at h1
 induction fuel with
 | zero =>
   intro listed a w hc _ hr hy hS H
   refine ⟨fun h => (by rw [h] at hr; cases hr), fun j hj => ?_⟩
   by_cases hji : j = i
   · subst hji; exact hy.wpOp hi (hB listed w hc hr hS) ⟨(hins _ _).2 hS, H⟩
   have := ready_mono hj hji
   rw [H.1] at this
   cases this
 | succ fuel ih =>
   intro listed a w hc hfree hr hy hS H
   refine ⟨fun h => (by rw [h] at hr; cases hr), fun j hj => ?_⟩
   by_cases hji : j = i
   · subst hji; exact hy.wpOp hi (hB listed w hc hr hS) ⟨(hins _ _).2 hS, H⟩
   have h1 := H.2 j (ready_mono hj hji)
   obtain ⟨hjun, oj, hoj, hall⟩ := mem_ready.1 hj
   have hnot : ∀ e ∈ oj.after, Region.binds .any e = true → e.on ≠ i := fun e he hb heq => by
    have h1 := hall e he hb
    have h0 := (mem_ready.1 hr).1
    rw [heq] at h1
    rcases Nat.lt_or_ge i listed.size with h' | h'
    · simp [h'] at h0 h1; rw [h0] at h1; cases h1
    simp [Array.getElem?_eq_none h'] at h1
   have h2 := wpOp_putIf hoj (hfree j oj hoj hji hjun hnot) (fun cs b => hsel i oi cs b hi) (fun cs b => hsel j oj cs b hoj) hQ hy h1
   have hfree' : ∀ k ok, ops[k]? = some ok → k ≠ i → (listed.setIfInBounds j true).getD k true = false →
    (∀ e ∈ ok.after, Region.binds .any e = true → e.on ≠ i) → oi.apart ops ok = true := fun k ok hk hki hun hno => by
    refine hfree k ok hk hki ?_ hno
    by_cases hjk : j = k
    · subst hjk; exact hjun
    rw [getD_set_ne true hjk] at hun; exact hun
   refine wpOp_mono (fun a' w' h3 => ?_) h2
   obtain ⟨hy', hS', H'⟩ := h3
   rw [Array.setIfInBounds_comm _ _ (Ne.symm hji)] at hS' H'
   have hSj := (hins _ _).1 hS'
   exact ⟨hSj, ih (listed.setIfInBounds j true) a' w' (closed_ready hc hj) hfree' (ready_mono hr (Ne.symm hji)) hy' hSj H'⟩
theorem wpAnyS_take (i : Nat) {oi : Oper} {v : Value} {fuel : Nat} {listed listed' : Array Bool} {a a' : Act} {w : World} (hi : ops[i]? = some oi) (hl : listed.setIfInBounds i true = listed')
 (hb : (Region.noSelect ops && Region.free .any ops listed i && (Region.ready .any ops listed).contains i && closedB ops listed) = true)
 (hQ : ∀ c a w, Q (.panic c) (a.put oi.dst v) w → Q (.panic c) a w) (hins : ∀ L w, S (L.setIfInBounds i true) w ↔ S L w) (ha : a.put oi.dst v = a') (hS : S listed w)
 (hy : YieldsIf P ops (Before ops S i) oi v a)
 (h : S listed' w → wpAnyS P ops Q S fuel listed' a' w) : wpAnyS P ops Q S (fuel + 1) listed a w := by
 simp only [Bool.and_eq_true] at hb
 obtain ⟨⟨⟨h1, h2⟩, h3⟩, h4⟩ := hb
 subst hl
 subst ha
 exact wpAnyS_first hi (Region.noSelect_spec h1) hQ hins fuel listed a w (closedB_spec h4) (Region.free_spec hi h2) (by simpa using h3) hy hS (h ((hins _ _).2 hS))
theorem wpAnyS_one (i : Nat) {o o2 : Oper} {fuel : Nat} {listed listed' : Array Bool} {a : Act} {w : World} (hr : Region.ready .any ops listed = [i]) (ho : ops[i]? = some o) (hl : listed.setIfInBounds i true = listed')
 (h2 : { o with guard := none } = o2) (hg : Region.wanted o (yielded ops a.tmps) = true) (h : wpList P ops (thenK (fun a' w' => S listed' w' ∧ wpAnyS P ops Q S fuel listed' a' w') Q) [o2] a w) : wpAnyS P ops Q S (fuel + 1) listed a w := by
 subst h2
 subst hl
 refine ⟨fun h0 => (by rw [hr] at h0; cases h0), fun j hj => ?_⟩
 rw [hr, List.mem_singleton] at hj
 subst hj
 unfold wpOp
 simp only [ho, hg, if_true]
 have hL : LetsOut (thenK (fun a' w' => S (listed.setIfInBounds j true) w' ∧ wpAnyS P ops Q S fuel (listed.setIfInBounds j true) a' w') Q) → LetsOut Q := id
 unfold wpList at h
 simp only [Region.wanted, if_true] at h
 rcases h with h | ⟨h1, h2⟩
 · exact .inl (wp_exits (fun _ _ _ h => h) hL h)
 exact .inr ⟨h1, hL h2⟩
theorem wpAnyS_op (i : Nat) {o : Oper} {fuel : Nat} {listed listed' : Array Bool} {a : Act} {w : World} (hr : Region.ready .any ops listed = [i]) (ho : ops[i]? = some o) (hl : listed.setIfInBounds i true = listed')
 (hg : Region.wanted o (yielded ops a.tmps) = true) (h : o.wp P a w (fun a' w' => S listed' w' ∧ wpAnyS P ops Q S fuel listed' a' w') Q) : wpAnyS P ops Q S (fuel + 1) listed a w := by
 subst hl
 refine ⟨fun h0 => (by rw [hr] at h0; cases h0), fun j hj => ?_⟩
 rw [hr, List.mem_singleton] at hj
 subst hj
 unfold wpOp
 simp only [ho, hg, if_true]
 exact .inl h
theorem wpAnyS_go {A : Prop} {fuel : Nat} {L : Array Bool} {a a' : Act} {w : World} (ha : a = a') (hS : A) (h : A → wpAnyS P ops Q S fuel L a' w) : A ∧ wpAnyS P ops Q S fuel L a w := by
 subst ha
 exact ⟨hS, h hS⟩
theorem wpAnyS_goL {A : World → Prop} {fuel : Nat} {L : Array Bool} {a a' : Act} {w : World} (ha : a = a') (hS : A w) (h : A w → wpAnyS P ops Q S fuel L a' w) :
 wpList P ops (thenK (fun a' w' => A w' ∧ wpAnyS P ops Q S fuel L a' w') Q) [] a w := by
 subst ha
 exact ⟨hS, h hS⟩
theorem NoWaiter.flag {i : Nat} {L : Array Bool} (h : NoWaiter ops i L) (j : Nat) (hw : ((ops[j]?).map (·.after.toList.any fun e => Region.binds .any e && e.on == i)).getD false = true) : L.getD j false = false := by
 cases ho : ops[j]? with
 | none => rw [ho] at hw; cases hw
 | some oj =>
   rw [ho] at hw
   simp only [Option.map_some, Option.getD_some, List.any_eq_true, Array.mem_toList_iff] at hw
   obtain ⟨e, he, h1⟩ := hw
   simp only [Bool.and_eq_true, beq_iff_eq] at h1
   have h2 := h j oj ho ⟨e, he, h1.1, h1.2⟩
   rcases Nat.lt_or_ge j L.size with h' | h'
   · simp [h'] at h2 ⊢; exact h2
   simp [Array.getElem?_eq_none h'] at h2
theorem wpAnyS_all {rs : List Nat} {fuel : Nat} {listed : Array Bool} {a : Act} {w : World} (hr : Region.ready .any ops listed = rs) (hne : rs ≠ [])
 (h : ∀ i ∈ rs, wpOp P ops Q i (fun a' w' => S (listed.setIfInBounds i true) w' ∧ wpAnyS P ops Q S fuel (listed.setIfInBounds i true) a' w') a w) : wpAnyS P ops Q S (fuel + 1) listed a w :=
 ⟨fun h0 => absurd (hr ▸ h0) hne, hr ▸ h⟩
theorem wpAnyS_allocs (i j : Nat) {o1 o2 : Oper} {d1 d2 : Tmp} {fuel : Nat} {L L' : Array Bool} {a : Act} {w : World} {ob : Obj} (hr : Region.ready .any ops L = [i, j]) (hr1 : Region.ready .any ops (L.setIfInBounds i true) = [j]) (hr2 : Region.ready .any ops (L.setIfInBounds j true) = [i])
 (hl : (L.setIfInBounds i true).setIfInBounds j true = L') (hl2 : (L.setIfInBounds j true).setIfInBounds i true = L') (h1 : ops[i]? = some o1) (h2 : ops[j]? = some o2) (g1 : o1.guard = none) (g2 : o2.guard = none)
 (e1 : o1.dst = some d1) (e2 : o2.dst = some d2) (hne : d1 ≠ d2) (r1 : ∀ (a : Act) w, (execOp a.eval o1).run P w = .ok (.value (.pointer (some ⟨w.heap.size, 0, none⟩))) (w.alloc ob)) (r2 : ∀ (a : Act) w, (execOp a.eval o2).run P w = .ok (.value (.pointer (some ⟨w.heap.size, 0, none⟩))) (w.alloc ob))
 (s1 : S (L.setIfInBounds i true) (w.alloc ob)) (s2 : S (L.setIfInBounds j true) (w.alloc ob)) (s12 : S L' ((w.alloc ob).alloc ob))
 (h : ∀ b1 b2, (b1 = w.heap.size ∧ b2 = w.heap.size + 1 ∨ b2 = w.heap.size ∧ b1 = w.heap.size + 1) → wpAnyS P ops Q S fuel L' ((a.put (some d1) (.pointer (some ⟨b1, 0, none⟩))).put (some d2) (.pointer (some ⟨b2, 0, none⟩))) ((w.alloc ob).alloc ob)) :
 wpAnyS P ops Q S (fuel + 2) L a w := by
 refine ⟨fun h0 => (by rw [hr] at h0; cases h0), fun k hk => ?_⟩
 rw [hr] at hk
 simp only [List.mem_cons, List.not_mem_nil, or_false] at hk
 have hz : (w.alloc ob).heap.size = w.heap.size + 1 := by simp
 rcases hk with rfl | rfl
 · unfold wpOp
   simp only [h1, Region.wanted, g1, if_true]
   refine .inl ?_
   unfold Oper.wp
   rw [r1]
   show S _ _ ∧ wpAnyS P ops Q S (fuel + 1) _ (a.put o1.dst _) _
   rw [e1]
   refine ⟨s1, fun h0 => (by rw [hr1] at h0; cases h0), fun k' hk' => ?_⟩
   rw [hr1, List.mem_singleton] at hk'
   subst hk'
   unfold wpOp
   simp only [h2, Region.wanted, g2, if_true]
   refine .inl ?_
   unfold Oper.wp
   rw [r2, hz]
   show S _ _ ∧ wpAnyS P ops Q S fuel _ (Act.put _ o2.dst _) _
   rw [e2, hl]
   exact ⟨s12, h _ _ (.inl ⟨rfl, rfl⟩)⟩
 unfold wpOp
 simp only [h2, Region.wanted, g2, if_true]
 refine .inl ?_
 unfold Oper.wp
 rw [r2]
 show S _ _ ∧ wpAnyS P ops Q S (fuel + 1) _ (a.put o2.dst _) _
 rw [e2]
 refine ⟨s2, fun h0 => (by rw [hr2] at h0; cases h0), fun k' hk' => ?_⟩
 rw [hr2, List.mem_singleton] at hk'
 subst hk'
 unfold wpOp
 simp only [h1, Region.wanted, g1, if_true]
 refine .inl ?_
 unfold Oper.wp
 rw [r1, hz]
 show S _ _ ∧ wpAnyS P ops Q S fuel _ (Act.put _ o1.dst _) _
 rw [e1, hl2, Act.put_comm _ _ _ (by intro d e; injection e with e; subst e; simpa using fun e => hne e)]
 exact ⟨s12, h _ _ (.inr ⟨rfl, rfl⟩)⟩
theorem wpAnyS_done {fuel : Nat} {listed : Array Bool} {a : Act} {w : World} (hr : Region.ready .any ops listed = []) (h : Q .normal a w) : wpAnyS P ops Q S fuel listed a w := by
 cases fuel with
 | zero => exact ⟨hr, h⟩
 | succ n => exact ⟨fun _ => h, by rw [hr]; simp⟩
theorem wp_region_S (S : Array Bool → World → Prop) {id n : Nat} {l0 : Array Bool} {a : Act} {w : World} (hm : P.follows .mixedOrders = true) (hn : ops.size = n) (hl : Array.replicate ops.size false = l0)
 (h : ∀ wd : World, wd.heap = w.heap → Below w.heap.size w wd → wpAnyS P ops Q S n l0 a wd) : (Code.region id ops true).wp P Q a w := by
 subst hn
 subst hl
 exact wp_region_any hm (wpAny_of_S _ _ _ _ (h _ rfl ⟨rfl, rfl, rfl, Nat.le_refl _, fun _ _ => rfl⟩))
end
theorem nrm : (∀ (t : Array Value) (df) (d : Nat) (v : Value), Act.put ⟨t, df⟩ (some d) v = ⟨t.setIfInBounds d v, df⟩) ∧ (∀ (a : Act) (v : Value), a.put none v = a) ∧ (∀ (l : List Value) (i : Nat) (v : Value), l.toArray.setIfInBounds i v = (l.set i v).toArray) ∧
 (∀ (l : List Value) (x v : Value), (x :: l).set 0 v = v :: l) ∧ (∀ (l : List Value) (x v : Value) (i : Nat), (x :: l).set (i + 1) v = x :: l.set i v) ∧
 (∀ (l : List Oper) (i : Nat), l.toArray[i]? = l[i]?) ∧ (∀ (l : List Oper) (x : Oper), (x :: l)[0]? = some x) ∧ (∀ (l : List Oper) (x : Oper) (i : Nat), (x :: l)[i + 1]? = l[i]?) :=
 ⟨fun _ _ _ _ => rfl, fun _ _ => rfl, fun _ _ _ => by simp, fun _ _ _ => rfl, fun _ _ _ _ => rfl, fun _ _ => by simp, fun _ _ => rfl, fun _ _ _ => by simp⟩
section
variable {P : Program} {ops : Array Oper} {Q : Exit → Act → World → Prop} {S : Array Bool → World → Prop}
theorem tk (i : Nat) (v : Value) {oi : Oper} {fuel : Nat} {listed : Array Bool} {a a' : Act} {w : World} (hS : S listed w) (hy : ∀ w' L, NoWaiter ops i L → S L w' → (execOp a.eval oi).run P w' = .ok (.value v) w')
 (h : S (listed.setIfInBounds i true) w → wpAnyS P ops Q S fuel (listed.setIfInBounds i true) a' w)
 (hi : ops[i]? = some oi := by simp only [nrm]; rfl)
 (hb : (Region.noSelect ops && Region.free .any ops listed i && (Region.ready .any ops listed).contains i && closedB ops listed) = true := by kernel_rfl)
 (hQ : ∀ c a w, Q (.panic c) (a.put oi.dst v) w → Q (.panic c) a w := by exact fun _ _ _ h => h) (hins : ∀ L w, S (L.setIfInBounds i true) w ↔ S L w := by exact fun _ _ => Iff.rfl) (ha : a.put oi.dst v = a' := by simp only [nrm]; rfl)
 (hg : Region.wanted oi (yielded ops a.tmps) = true := by rfl) : wpAnyS P ops Q S (fuel + 1) listed a w :=
 wpAnyS_take i hi rfl hb hQ hins ha hS (.inl ⟨hg, fun w' hB => by obtain ⟨L, hn, hw⟩ := hB; exact hy w' L hn hw⟩) h
theorem sk (i : Nat) {oi : Oper} {fuel : Nat} {listed : Array Bool} {a a' : Act} {w : World} (hS : S listed w)
 (h : S (listed.setIfInBounds i true) w → wpAnyS P ops Q S fuel (listed.setIfInBounds i true) a' w)
 (hi : ops[i]? = some oi := by simp only [nrm]; rfl)
 (hb : (Region.noSelect ops && Region.free .any ops listed i && (Region.ready .any ops listed).contains i && closedB ops listed) = true := by kernel_rfl)
 (hQ : ∀ c a w, Q (.panic c) (a.put oi.dst undef) w → Q (.panic c) a w := by exact fun _ _ _ h => h) (hins : ∀ L w, S (L.setIfInBounds i true) w ↔ S L w := by exact fun _ _ => Iff.rfl) (ha : a.put oi.dst undef = a' := by simp only [nrm]; rfl)
 (hg : Region.wanted oi (yielded ops a.tmps) = false := by rfl) : wpAnyS P ops Q S (fuel + 1) listed a w :=
 wpAnyS_take i hi rfl hb hQ hins ha hS (.inr ⟨hg, rfl⟩) h
theorem so (i : Nat) {o : Oper} {fuel : Nat} {listed : Array Bool} {a : Act} {w : World} (h : o.wp P a w (fun a' w' => S (listed.setIfInBounds i true) w' ∧ wpAnyS P ops Q S fuel (listed.setIfInBounds i true) a' w') Q)
 (hr : Region.ready .any ops listed = [i] := by kernel_rfl) (ho : ops[i]? = some o := by simp only [nrm]; rfl) (hg : Region.wanted o (yielded ops a.tmps) = true := by rfl) : wpAnyS P ops Q S (fuel + 1) listed a w :=
 wpAnyS_op i hr ho rfl hg h
theorem sl (i : Nat) {o : Oper} {fuel : Nat} {listed : Array Bool} {a : Act} {w : World} (h : wpList P ops (thenK (fun a' w' => S (listed.setIfInBounds i true) w' ∧ wpAnyS P ops Q S fuel (listed.setIfInBounds i true) a' w') Q) [{ o with guard := none }] a w)
 (hr : Region.ready .any ops listed = [i] := by kernel_rfl) (ho : ops[i]? = some o := by simp only [nrm]; rfl) (hg : Region.wanted o (yielded ops a.tmps) = true := by rfl) : wpAnyS P ops Q S (fuel + 1) listed a w :=
 wpAnyS_one i hr ho rfl rfl hg h
theorem gS {A : Prop} {fuel : Nat} {L : Array Bool} {a a' : Act} {w : World} (hS : A) (h : A → wpAnyS P ops Q S fuel L a' w) (ha : a = a' := by simp only [nrm]; rfl) : A ∧ wpAnyS P ops Q S fuel L a w := wpAnyS_go ha hS h
theorem gL {A : World → Prop} {fuel : Nat} {L : Array Bool} {a a' : Act} {w : World} (hS : A w) (h : A w → wpAnyS P ops Q S fuel L a' w) (ha : a = a' := by simp only [nrm]; rfl) :
 wpList P ops (thenK (fun a' w' => A w' ∧ wpAnyS P ops Q S fuel L a' w') Q) [] a w := wpAnyS_goL ha hS h
theorem ta (i : Nat) (v : Value) {oi : Oper} {fuel : Nat} {listed : Array Bool} {a a' : Act} {w : World} (hS : S listed w)
 (h : S (listed.setIfInBounds i true) w → wpAnyS P ops Q S fuel (listed.setIfInBounds i true) a' w)
 (hi : ops[i]? = some oi := by simp only [nrm]; rfl) (hy : ∀ w', (execOp a.eval oi).run P w' = .ok (.value v) w' := by intro w'; first | rfl | simp [execOp, go_sem])
 (hb : (Region.noSelect ops && Region.free .any ops listed i && (Region.ready .any ops listed).contains i && closedB ops listed) = true := by kernel_rfl)
 (hQ : ∀ c a w, Q (.panic c) (a.put oi.dst v) w → Q (.panic c) a w := by exact fun _ _ _ h => h) (hins : ∀ L w, S (L.setIfInBounds i true) w ↔ S L w := by exact fun _ _ => Iff.rfl) (ha : a.put oi.dst v = a' := by simp only [nrm]; rfl)
 (hg : Region.wanted oi (yielded ops a.tmps) = true := by rfl) : wpAnyS P ops Q S (fuel + 1) listed a w :=
 wpAnyS_take i hi rfl hb hQ hins ha hS (.inl ⟨hg, fun w' _ => hy w'⟩) h
theorem rg (n : Nat) (S : Array Bool → World → Prop) {id : Nat} {a : Act} {w : World} (h : ∀ wd : World, wd.heap = w.heap → Below w.heap.size w wd → S (Array.replicate n false) wd ∧ (S (Array.replicate n false) wd → wpAnyS P ops Q S n (Array.replicate n false) a wd))
 (hm : P.follows .mixedOrders = true := by kernel_rfl) (hn : ops.size = n := by rfl) : (Code.region id ops true).wp P Q a w :=
 wp_region_S S hm hn (by rw [hn]) fun wd h1 h2 => (h wd h1 h2).2 (h wd h1 h2).1
theorem dn {fuel : Nat} {listed : Array Bool} {a : Act} {w : World} (h : Q .normal a w) (hr : Region.ready .any ops listed = [] := by kernel_rfl) : wpAnyS P ops Q S fuel listed a w := wpAnyS_done hr h
end
section
variable {P : Program} {ops : Array Oper} {Q : Exit → Act → World → Prop} {S : World → Prop}
def LeavesU (P : Program) (S : World → Prop) (v : Value) : Result Next → Prop
 | .ok (.value u) w' => u = v ∧ S w'
 | .ok .skip w' => undef = v ∧ S w'
 | .ok (.enter f args) w' => Calls P f args w' fun e w'' => e = .returned v ∧ S w''
 | _ => False
def YieldsU (P : Program) (ops : Array Oper) (S : World → Prop) (o : Oper) (v : Value) (a : Act) : Prop :=
 (Region.wanted o (yielded ops a.tmps) = true ∧ ∀ w, S w → LeavesU P S v ((execOp a.eval o).run P w)) ∨
 (Region.wanted o (yielded ops a.tmps) = false ∧ v = undef)
theorem YieldsU.of_same {o : Oper} {v : Value} {a a' : Act} (hy : YieldsU P ops S o v a) (he : execOp a'.eval o = execOp a.eval o)
 (hw : Region.wanted o (yielded ops a'.tmps) = Region.wanted o (yielded ops a.tmps)) : YieldsU P ops S o v a' := by
 unfold YieldsU at *
 rw [he, hw]
 exact hy
theorem YieldsU.wpOp {i : Nat} {o : Oper} {v : Value} {a : Act} (hi : ops[i]? = some o) (hy : YieldsU P ops S o v a)
 {K : Act → World → Prop} {w : World} (hS : S w) (h : ∀ w', S w' → K (a.put o.dst v) w') : wpOp P ops Q i K a w := by
 unfold Go.wpOp
 simp only [hi]
 rcases hy with ⟨hw, hv⟩ | ⟨hw, rfl⟩
 · simp only [hw, if_true]
   refine .inl ?_
   have hx := hv w hS
   clear hv
   unfold Oper.wp
   generalize (execOp a.eval o).run P w = r at *
   cases r with
   | halt x w' => exact hx.elim
   | ok n w' =>
     cases n <;> simp only [LeavesU] at hx <;> simp only [Oper.upon]
     case value u => obtain ⟨rfl, hx⟩ := hx; exact h _ hx
     case skip => obtain ⟨rfl, hx⟩ := hx; exact h _ hx
     case enter f args =>
      refine Calls.mono hx fun e w'' he => ?_
      obtain ⟨rfl, he⟩ := he
      exact h _ he
 simp only [hw, Bool.false_eq_true, if_false]; exact h w hS
theorem wpOp_putU {j : Nat} {oi oj : Oper} {v : Value} (hj : ops[j]? = some oj) (hap : oi.apart ops oj = true)
 (hsi : ∀ cs b, oi.op ≠ .select cs b) (hsj : ∀ cs b, oj.op ≠ .select cs b)
 (hQ : ∀ c a w, Q (.panic c) (a.put oi.dst v) w → Q (.panic c) a w) {K : Act → World → Prop} {a : Act} {w : World}
 (hy : YieldsU P ops S oi v a) (h : wpOp P ops Q j K (a.put oi.dst v) w) :
 wpOp P ops Q j (fun a' w' => YieldsU P ops S oi v a' ∧ K (a'.put oi.dst v) w') a w := by
 obtain ⟨h1, h2, h3⟩ := Oper.apart_spec hap
 have keep : ∀ (a : Act), YieldsU P ops S oi v a → ∀ u, YieldsU P ops S oi v (a.put oj.dst u) := fun a hy u =>
  hy.of_same (execOp_put oi hsi a oj.dst u h3) (wanted_put oi a oj.dst u h3)
 have keepD : ∀ d, YieldsU P ops S oi v { a with defers := d :: a.defers } := fun d => hy.of_same rfl rfl
 unfold wpOp at *
 simp only [hj] at *
 rw [wanted_put oj a oi.dst v h1] at h
 split
 · rename_i hw
   simp only [hw, if_true] at h
   rcases h with h | ⟨hasks, hlets⟩
   case inr => exact .inr ⟨by unfold Oper.asks at *; rw [execOp_put oj hsj a oi.dst v h1] at hasks; exact hasks, hlets⟩
   refine .inl ?_
   unfold Oper.wp at *
   rw [execOp_put oj hsj a oi.dst v h1] at h
   generalize (execOp a.eval oj).run P w = r at *
   cases r with
   | ok n w' =>
     cases n <;> simp only [Oper.upon] at h ⊢
     case value u => exact ⟨keep a hy u, by rw [← Act.put_comm a v u h2]; exact h⟩
     case skip => exact ⟨keep a hy _, by rw [← Act.put_comm a v undef h2]; exact h⟩
     case defer d =>
      refine ⟨keep _ (keepD d) _, ?_⟩
      rw [← Act.put_comm _ v undef h2, ← Act.put_defers]
      exact h
     case enter f args =>
      refine Calls.mono h fun e w'' he => ?_
      cases e with
      | returned u => exact ⟨keep a hy u, by rw [← Act.put_comm a v u h2]; exact he⟩
      | panicked c => exact hQ _ _ _ he
      | outgrown => exact he
     case row row args => exact Rows.mono h fun u w'' he => ⟨keep a hy u, by rw [← Act.put_comm a v u h2]; exact he⟩
   | halt x w' =>
     cases x <;> simp only [Oper.upon] at h ⊢
     case panic u => exact hQ _ _ _ h
 rename_i hw
 simp only [hw] at h
 exact ⟨keep a hy _, by rw [← Act.put_comm a v undef h2]; exact h⟩
def wpAnyU (P : Program) (ops : Array Oper) (Q : Exit → Act → World → Prop) (S : World → Prop) : Nat → Array Bool → Act → Prop
 | 0, listed, a => Region.ready .any ops listed = [] ∧ ∀ w, S w → Q .normal a w
 | fuel + 1, listed, a =>
   (Region.ready .any ops listed = [] → ∀ w, S w → Q .normal a w) ∧
   ∀ i ∈ Region.ready .any ops listed, ∀ w, S w → wpOp P ops Q i (fun a' w' => S w' ∧ wpAnyU P ops Q S fuel (listed.setIfInBounds i true) a') a w
theorem wpAny_of_U : ∀ (fuel : Nat) (listed : Array Bool) (a : Act) (w : World), S w → wpAnyU P ops Q S fuel listed a → wpAny P .any ops Q fuel listed a w
 | 0, _, _, _, hS, h => ⟨h.1, h.2 _ hS⟩
 | fuel + 1, _, _, _, hS, h => ⟨fun hr => h.1 hr _ hS, fun i hi => wpOp_mono (fun a' w' h' => wpAny_of_U fuel _ a' w' h'.1 h'.2) (h.2 i hi _ hS)⟩
theorem wpAnyU_first {i : Nat} {oi : Oper} {v : Value} (hi : ops[i]? = some oi) (hsel : ∀ (j : Nat) (o : Oper) cs b, ops[j]? = some o → o.op ≠ .select cs b)
 (hQ : ∀ c a w, Q (.panic c) (a.put oi.dst v) w → Q (.panic c) a w) :
 ∀ (fuel : Nat) (listed : Array Bool) (a : Act),
   (∀ j oj, ops[j]? = some oj → j ≠ i → listed.getD j true = false → (∀ e ∈ oj.after, Region.binds .any e = true → e.on ≠ i) → oi.apart ops oj = true) →
   i ∈ Region.ready .any ops listed → YieldsU P ops S oi v a →
   wpAnyU P ops Q S fuel (listed.setIfInBounds i true) (a.put oi.dst v) → wpAnyU P ops Q S (fuel + 1) listed a := by
 intro fuel
 induction fuel with
 | zero =>
   intro listed a _ hr hy H
   refine ⟨fun h => (by rw [h] at hr; cases hr), fun j hj w hS => ?_⟩
   by_cases hji : j = i
   · subst hji; exact hy.wpOp hi hS fun w' hS' => ⟨hS', H⟩
   have := ready_mono hj hji
   rw [H.1] at this
   cases this
 | succ fuel ih =>
   intro listed a hfree hr hy H
   refine ⟨fun h => (by rw [h] at hr; cases hr), fun j hj w hS => ?_⟩
   by_cases hji : j = i
   · subst hji; exact hy.wpOp hi hS fun w' hS' => ⟨hS', H⟩
   have h1 := H.2 j (ready_mono hj hji) w hS
   obtain ⟨hjun, oj, hoj, hall⟩ := mem_ready.1 hj
   have hnot : ∀ e ∈ oj.after, Region.binds .any e = true → e.on ≠ i := fun e he hb heq => by
    have h1 := hall e he hb
    have h0 := (mem_ready.1 hr).1
    rw [heq] at h1
    rcases Nat.lt_or_ge i listed.size with h' | h'
    · simp [h'] at h0 h1; rw [h0] at h1; cases h1
    simp [Array.getElem?_eq_none h'] at h1
   have h2 := wpOp_putU hoj (hfree j oj hoj hji hjun hnot) (fun cs b => hsel i oi cs b hi) (fun cs b => hsel j oj cs b hoj) hQ hy h1
   have hfree' : ∀ k ok, ops[k]? = some ok → k ≠ i → (listed.setIfInBounds j true).getD k true = false →
    (∀ e ∈ ok.after, Region.binds .any e = true → e.on ≠ i) → oi.apart ops ok = true := fun k ok hk hki hun hno => by
    refine hfree k ok hk hki ?_ hno
    by_cases hjk : j = k
    · subst hjk; exact hjun
    rw [getD_set_ne true hjk] at hun; exact hun
   refine wpOp_mono (fun a' w' h3 => ?_) h2
   obtain ⟨hy', hS', H'⟩ := h3
   rw [Array.setIfInBounds_comm _ _ (Ne.symm hji)] at H'
   exact ⟨hS', ih (listed.setIfInBounds j true) a' hfree' (ready_mono hr (Ne.symm hji)) hy' H'⟩
theorem tu (i : Nat) (v : Value) {oi : Oper} {fuel : Nat} {listed : Array Bool} {a a' : Act} (hy : ∀ w', S w' → LeavesU P S v ((execOp a.eval oi).run P w'))
 (h : wpAnyU P ops Q S fuel (listed.setIfInBounds i true) a')
 (hi : ops[i]? = some oi := by simp only [nrm]; rfl)
 (hb : (Region.noSelect ops && Region.free .any ops listed i && (Region.ready .any ops listed).contains i) = true := by kernel_rfl)
 (hQ : ∀ c a w, Q (.panic c) (a.put oi.dst v) w → Q (.panic c) a w := by exact fun _ _ _ h => h) (ha : a.put oi.dst v = a' := by simp only [nrm]; rfl)
 (hg : Region.wanted oi (yielded ops a.tmps) = true := by rfl) : wpAnyU P ops Q S (fuel + 1) listed a := by
 simp only [Bool.and_eq_true] at hb
 obtain ⟨⟨h1, h2⟩, h3⟩ := hb
 subst ha
 exact wpAnyU_first hi (Region.noSelect_spec h1) hQ fuel listed a (Region.free_spec hi h2) (by simpa using h3) (.inl ⟨hg, hy⟩) h
theorem su (i : Nat) {oi : Oper} {fuel : Nat} {listed : Array Bool} {a a' : Act}
 (h : wpAnyU P ops Q S fuel (listed.setIfInBounds i true) a')
 (hi : ops[i]? = some oi := by simp only [nrm]; rfl)
 (hb : (Region.noSelect ops && Region.free .any ops listed i && (Region.ready .any ops listed).contains i) = true := by kernel_rfl)
 (hQ : ∀ c a w, Q (.panic c) (a.put oi.dst undef) w → Q (.panic c) a w := by exact fun _ _ _ h => h) (ha : a.put oi.dst undef = a' := by simp only [nrm]; rfl)
 (hg : Region.wanted oi (yielded ops a.tmps) = false := by rfl) : wpAnyU P ops Q S (fuel + 1) listed a := by
 simp only [Bool.and_eq_true] at hb
 obtain ⟨⟨h1, h2⟩, h3⟩ := hb
 subst ha
 exact wpAnyU_first hi (Region.noSelect_spec h1) hQ fuel listed a (Region.free_spec hi h2) (by simpa using h3) (.inr ⟨hg, rfl⟩) h
theorem pu (i : Nat) (v : Value) {oi : Oper} {fuel : Nat} {listed : Array Bool} {a a' : Act}
 (h : wpAnyU P ops Q S fuel (listed.setIfInBounds i true) a')
 (hi : ops[i]? = some oi := by simp only [nrm]; rfl) (hy : ∀ w', (execOp a.eval oi).run P w' = .ok (.value v) w' := by intro w'; first | rfl | simp [execOp, go_sem])
 (hb : (Region.noSelect ops && Region.free .any ops listed i && (Region.ready .any ops listed).contains i) = true := by kernel_rfl)
 (hQ : ∀ c a w, Q (.panic c) (a.put oi.dst v) w → Q (.panic c) a w := by exact fun _ _ _ h => h) (ha : a.put oi.dst v = a' := by simp only [nrm]; rfl)
 (hg : Region.wanted oi (yielded ops a.tmps) = true := by rfl) : wpAnyU P ops Q S (fuel + 1) listed a :=
 tu i v (fun w' hw => by rw [hy]; exact ⟨rfl, hw⟩) h hi hb hQ ha hg
theorem ru (i : Nat) (v : Value) {oi : Oper} {fuel : Nat} {listed : Array Bool} {a a' : Act} (hy : ∀ w', S w' → (execOp a.eval oi).run P w' = .ok (.value v) w')
 (h : wpAnyU P ops Q S fuel (listed.setIfInBounds i true) a')
 (hi : ops[i]? = some oi := by simp only [nrm]; rfl)
 (hb : (Region.noSelect ops && Region.free .any ops listed i && (Region.ready .any ops listed).contains i) = true := by kernel_rfl)
 (hQ : ∀ c a w, Q (.panic c) (a.put oi.dst v) w → Q (.panic c) a w := by exact fun _ _ _ h => h) (ha : a.put oi.dst v = a' := by simp only [nrm]; rfl)
 (hg : Region.wanted oi (yielded ops a.tmps) = true := by rfl) : wpAnyU P ops Q S (fuel + 1) listed a :=
 tu i v (fun w' hw => by rw [hy w' hw]; exact ⟨rfl, hw⟩) h hi hb hQ ha hg
theorem cu (i : Nat) (v : Value) {oi : Oper} {fuel : Nat} {listed : Array Bool} {a a' : Act} {f : FuncId} {args : Array Value}
 (hc : ∀ w', S w' → Calls P f args w' (fun e w'' => e = .returned v ∧ S w''))
 (h : wpAnyU P ops Q S fuel (listed.setIfInBounds i true) a')
 (hi : ops[i]? = some oi := by simp only [nrm]; rfl) (hr : ∀ w', (execOp a.eval oi).run P w' = .ok (.enter f args) w' := by intro w'; simp [execOp, resolve, invoke, go_sem])
 (hb : (Region.noSelect ops && Region.free .any ops listed i && (Region.ready .any ops listed).contains i) = true := by kernel_rfl)
 (hQ : ∀ c a w, Q (.panic c) (a.put oi.dst v) w → Q (.panic c) a w := by exact fun _ _ _ h => h) (ha : a.put oi.dst v = a' := by simp only [nrm]; rfl)
 (hg : Region.wanted oi (yielded ops a.tmps) = true := by rfl) : wpAnyU P ops Q S (fuel + 1) listed a :=
 tu i v (fun w' hw => by rw [hr w']; exact hc w' hw) h hi hb hQ ha hg
theorem bu (n : Nat) (S : World → Prop) {id : Nat} {a : Act} {w : World} (hS : ∀ wd : World, wd.heap = w.heap → Below w.heap.size w wd → S wd) (h : wpAnyU P ops Q S n (Array.replicate n false) a)
 (hm : P.follows .mixedOrders = true := by kernel_rfl) (hn : ops.size = n := by rfl) : (Code.region id ops true).wp P Q a w := by
 subst hn
 exact wp_region_any hm (wpAny_of_U _ _ _ _ (hS _ rfl ⟨rfl, rfl, rfl, Nat.le_refl _, fun _ _ => rfl⟩) h)
theorem du {fuel : Nat} {listed : Array Bool} {a : Act} (h : ∀ w, S w → Q .normal a w) (hr : Region.ready .any ops listed = [] := by kernel_rfl) : wpAnyU P ops Q S fuel listed a := by
 cases fuel with
 | zero => exact ⟨hr, h⟩
 | succ n => exact ⟨fun _ => h, by rw [hr]; simp⟩
end
theorem Rd.sl_form {w : World} {B size : Nat} {rows : List (List Tr)} {v : Value} (h : Rd w B (.sl size rows) v) : ∃ A c, v = .slice A rows.length c ∧ rows.length ≤ c ∧ rows.length ≤ 140737488351232 ∧ c ≤ maxLen := by
 rcases h.sl_inv with ⟨rfl, A, rfl⟩ | ⟨b, off, c, us, rfl, h1, h2, h3, _⟩
 · exact ⟨A, 0, rfl, Nat.le_refl _, Nat.zero_le _, Nat.zero_le _⟩
 exact ⟨_, c, rfl, h1, h2, h3⟩
theorem Rd.at_ {w : World} {B k n c size : Nat} {A : Option Addr} {rows : List (List Tr)} (h : Rd w B (.sl size rows) (.slice A n c)) (hk : k < rows.length) :
 ∃ (ab off : Nat) (us : Nat → Value), A = some ⟨ab, off, none⟩ ∧ ab < B ∧ (∀ j, j < size → w.cell? ⟨ab, off + k * size + j, none⟩ = some (us j)) ∧
   (∀ j (h' : j < rows[k].length), Rd w B rows[k][j] (us j)) := by
 rcases h.sl_inv with ⟨rfl, _⟩ | ⟨ab, off, c', us, hv, _, _, _, hb, hc, hr⟩
 · simp at hk
 injection hv with hA _ _
 exact ⟨ab, off, us k, hA, hb, fun j hj => hc k j hk hj, fun j hj => hr k hk j hj⟩
theorem Rd.leaf_at {w : World} {B k n c : Nat} {A : Option Addr} {α : Type} {f : α → Value} {xs : List α} (h : Rd w B (.sl 1 (xs.map fun x => [.leaf (f x)])) (.slice A n c)) (hk : k < xs.length) :
 ∃ ab off, A = some ⟨ab, off, none⟩ ∧ ab < B ∧ w.cell? ⟨ab, off + k, none⟩ = some (f xs[k]) := by
 obtain ⟨ab, off, us, hA, hb, hc, hr⟩ := h.at_ (k := k) (by simpa using hk)
 have h0 := hr 0 (by simp)
 simp only [List.getElem_map, List.getElem_cons_zero] at h0
 have e0 := h0.leaf_inv
 have := hc 0 (by omega)
 refine ⟨ab, off, hA, hb, ?_⟩
 rw [← e0, ← this]
 simp
inductive Tm where
 | mk (f : Int) (args : List Tm)
def Tm.fn : Tm → Int | .mk f _ => f
def Tm.args : Tm → List Tm | .mk _ xs => xs
mutual
def sizeT : Tm → Nat
 | .mk _ xs => sizeTs xs + 1
def sizeTs : List Tm → Nat
 | [] => 0
 | x :: xs => sizeT x + sizeTs xs
end
mutual
def depthT : Tm → Nat
 | .mk _ xs => depthTs xs + 1
def depthTs : List Tm → Nat
 | [] => 0
 | x :: xs => max (depthT x) (depthTs xs)
end
mutual
def encTm : Tm → List Tr
 | .mk f xs => [.leaf (.int .i64 f), .sl 2 (encTms xs)]
def encTms : List Tm → List (List Tr)
 | [] => []
 | e :: es => encTm e :: encTms es
end
theorem encTms_map (xs : List Tm) : encTms xs = xs.map encTm := by
 induction xs with
 | nil => rfl
 | cons x xs ih => simp [encTms, ih]
theorem encTms_len (xs : List Tm) : (encTms xs).length = xs.length := by simp [encTms_map]
theorem encTm_len (x : Tm) : (encTm x).length = 2 := by cases x; rfl
theorem Rd.tm_form {w : World} {B : Nat} {xs : List Tm} {v : Value} (h : Rd w B (.sl 2 (encTms xs)) v) : ∃ A c, v = .slice A xs.length c ∧ xs.length ≤ c ∧ xs.length ≤ 140737488351232 ∧ c ≤ 9223372036854775807 := by
 obtain ⟨A, c, h1, h2, h3, h4⟩ := h.sl_form
 rw [encTms_len] at h1 h2 h3
 unfold maxLen at h4
 exact ⟨A, c, h1, h2, h3, h4⟩
theorem Rd.row_form {w : World} {B size : Nat} {α : Type} {e : α → List Tr} {xs : List α} {v : Value} (h : Rd w B (.sl size (xs.map e)) v) : ∃ A c, v = .slice A xs.length c ∧ xs.length ≤ c ∧ xs.length ≤ 140737488351232 ∧ c ≤ 9223372036854775807 := by
 obtain ⟨A, c, h1, h2, h3, h4⟩ := h.sl_form
 rw [List.length_map] at h1 h2 h3
 unfold maxLen at h4
 exact ⟨A, c, h1, h2, h3, h4⟩
theorem Rd.tm_at {w : World} {B k n c : Nat} {A : Option Addr} {xs : List Tm} (h : Rd w B (.sl 2 (encTms xs)) (.slice A n c)) (hk : k < xs.length) :
 ∃ ab off f ys A2 c2, A = some ⟨ab, off, none⟩ ∧ xs[k] = .mk f ys ∧ ab < B ∧ w.cell? ⟨ab, off + k * 2, none⟩ = some (.int .i64 f) ∧ w.cell? ⟨ab, off + k * 2 + 1, none⟩ = some (.slice A2 ys.length c2) ∧ Rd w B (.sl 2 (encTms ys)) (.slice A2 ys.length c2) := by
 have hl := encTms_len xs
 obtain ⟨ab, off, us, hA, hb, hc, hr⟩ := h.at_ (k := k) (by omega)
 have hrow : (encTms xs)[k]'(by omega) = encTm xs[k] := by simp [encTms_map]
 rcases hxk : xs[k] with ⟨f, ys⟩
 rw [hxk] at hrow
 have h0 := hr 0 (by rw [hrow]; simp [encTm])
 have h1 := hr 1 (by rw [hrow]; simp [encTm])
 simp only [hrow, encTm, List.getElem_cons_zero, List.getElem_cons_succ] at h0 h1
 have e0 := h0.leaf_inv
 obtain ⟨A2, c2, e1, _⟩ := h1.tm_form
 exact ⟨ab, off, f, ys, A2, c2, hA, rfl, hb, by rw [← e0]; exact hc 0 (by omega), by rw [← e1]; exact hc 1 (by omega), by rw [← e1]; exact h1⟩
structure Lt where
 neg : Bool
 l : Tm
 r : Tm
abbrev Cl := List Lt
def encLt (x : Lt) : List Tr := .leaf (.bool x.neg) :: (encTm x.l ++ encTm x.r)
theorem encLt_len (x : Lt) : (encLt x).length = 5 := by rcases x with ⟨_, ⟨_, _⟩, ⟨_, _⟩⟩; rfl
def encCl (c : Cl) : Tr := .sl 5 (c.map encLt)
theorem Rd.cl_form {w : World} {B : Nat} {xs : Cl} {v : Value} (h : Rd w B (encCl xs) v) : ∃ A c, v = .slice A xs.length c ∧ xs.length ≤ c ∧ xs.length ≤ 140737488351232 ∧ c ≤ 9223372036854775807 := by
 obtain ⟨A, c, h1, h2, h3, h4⟩ := Rd.sl_form h
 rw [List.length_map] at h1 h2 h3
 unfold maxLen at h4
 exact ⟨A, c, h1, h2, h3, h4⟩
theorem Rd.lt_at {w : World} {B k n c : Nat} {A : Option Addr} {xs : Cl} (h : Rd w B (encCl xs) (.slice A n c)) (hk : k < xs.length) :
 ∃ ab off b f1 ys1 A1 c1 f2 ys2 A2 c2, A = some ⟨ab, off, none⟩ ∧ xs[k] = ⟨b, .mk f1 ys1, .mk f2 ys2⟩ ∧ ab < B ∧ w.cell? ⟨ab, off + k * 5, none⟩ = some (.bool b) ∧ w.cell? ⟨ab, off + k * 5 + 1, none⟩ = some (.int .i64 f1) ∧
   w.cell? ⟨ab, off + k * 5 + 2, none⟩ = some (.slice A1 ys1.length c1) ∧ w.cell? ⟨ab, off + k * 5 + 3, none⟩ = some (.int .i64 f2) ∧ w.cell? ⟨ab, off + k * 5 + 4, none⟩ = some (.slice A2 ys2.length c2) ∧
   Rd w B (.sl 2 (encTms ys1)) (.slice A1 ys1.length c1) ∧ Rd w B (.sl 2 (encTms ys2)) (.slice A2 ys2.length c2) := by
 unfold encCl at h
 obtain ⟨ab, off, us, hA, hb, hc, hr⟩ := h.at_ (k := k) (by simpa using hk)
 have hrow : (xs.map encLt)[k]'(by simpa using hk) = encLt xs[k] := by simp
 rcases hxk : xs[k] with ⟨b, ⟨f1, ys1⟩, ⟨f2, ys2⟩⟩
 rw [hxk] at hrow
 have h0 := hr 0 (by rw [hrow]; simp [encLt, encTm])
 have h1 := hr 1 (by rw [hrow]; simp [encLt, encTm])
 have h2 := hr 2 (by rw [hrow]; simp [encLt, encTm])
 have h3 := hr 3 (by rw [hrow]; simp [encLt, encTm])
 have h4 := hr 4 (by rw [hrow]; simp [encLt, encTm])
 simp only [hrow, encLt, encTm, List.cons_append, List.nil_append, List.getElem_cons_zero, List.getElem_cons_succ] at h0 h1 h2 h3 h4
 have e0 := h0.leaf_inv
 have e1 := h1.leaf_inv
 have e3 := h3.leaf_inv
 obtain ⟨A1, c1, e2, _⟩ := h2.tm_form
 obtain ⟨A2, c2, e4, _⟩ := h4.tm_form
 exact ⟨ab, off, b, f1, ys1, A1, c1, f2, ys2, A2, c2, hA, rfl, hb, by rw [← e0]; exact hc 0 (by omega), by rw [← e1]; exact hc 1 (by omega), by rw [← e2]; exact hc 2 (by omega), by rw [← e3]; exact hc 3 (by omega), by rw [← e4]; exact hc 4 (by omega), by rw [← e2]; exact h2, by rw [← e4]; exact h4⟩
def encCls (cs : List Cl) : Tr := .sl 1 (cs.map fun c => [encCl c])
theorem Rd.cl_at {w : World} {B k n c : Nat} {A : Option Addr} {cs : List Cl} (h : Rd w B (encCls cs) (.slice A n c)) (hk : k < cs.length) :
 ∃ ab off A2 c2, A = some ⟨ab, off, none⟩ ∧ ab < B ∧ w.cell? ⟨ab, off + k, none⟩ = some (.slice A2 cs[k].length c2) ∧ Rd w B (encCl cs[k]) (.slice A2 cs[k].length c2) := by
 unfold encCls at h
 obtain ⟨ab, off, us, hA, hb, hc, hr⟩ := h.at_ (k := k) (by simpa using hk)
 have h0 := hr 0 (by simp)
 simp only [List.getElem_map, List.getElem_cons_zero] at h0
 have := hc 0 (by omega)
 obtain ⟨A2, c2, e2, _⟩ := Rd.cl_form h0
 exact ⟨ab, off, A2, c2, hA, hb, by rw [← e2, ← this]; simp, by rw [← e2]; exact h0⟩
def encIs (xs : List Int) : Tr := .sl 1 (xs.map fun n => [.leaf (.int .i64 n)])
def encBs (xs : List Bool) : Tr := .sl 1 (xs.map fun b => [.leaf (.bool b)])
structure Sp where
 rule : Int
 parents : List Int
 lits : List Int
 right : List Bool
 pos : List Int
 clause : Cl
structure RdS (w : World) (B : Nat) (s : Sp) (v1 v2 v3 v4 v5 : Value) : Prop where
 parents : Rd w B (encIs s.parents) v1
 lits : Rd w B (encIs s.lits) v2
 right : Rd w B (encBs s.right) v3
 pos : Rd w B (encIs s.pos) v4
 clause : Rd w B (encCl s.clause) v5
theorem RdS.low {w w' : World} {B B' : Nat} {s : Sp} {v1 v2 v3 v4 v5 : Value} (h : RdS w B s v1 v2 v3 v4 v5) (hb : Below B' w w') (hB : B ≤ B') : RdS w' B s v1 v2 v3 v4 v5 :=
 ⟨h.parents.low hb hB, h.lits.low hb hB, h.right.low hb hB, h.pos.low hb hB, h.clause.low hb hB⟩
/-! ## Sizes -/
theorem sizeT_pos (t : Tm) : 0 < sizeT t := by cases t; simp [sizeT]
theorem sizeTs_mem {xs : List Tm} {k : Nat} (h : k < xs.length) : sizeT xs[k] ≤ sizeTs xs := by
 induction xs generalizing k with
 | nil => simp at h
 | cons x xs ih =>
   cases k with
   | zero => simp [sizeTs]
   | succ k =>
     have := ih (k := k) (by simpa using h)
     simp only [sizeTs, List.getElem_cons_succ]
     omega
theorem sizeTs_append (xs ys : List Tm) : sizeTs (xs ++ ys) = sizeTs xs + sizeTs ys := by
 induction xs with
 | nil => simp [sizeTs]
 | cons x xs ih => simp [sizeTs, ih]; omega
theorem sizeTs_take {xs : List Tm} {k : Nat} (h : k < xs.length) : sizeTs (xs.take (k + 1)) = sizeTs (xs.take k) + sizeT xs[k] := by
 rw [List.take_succ_eq_append_getElem h, sizeTs_append]
 simp [sizeTs]
theorem sizeTs_take_le (xs : List Tm) (k : Nat) : sizeTs (xs.take k) ≤ sizeTs xs := by
 conv => rhs; rw [← List.take_append_drop k xs, sizeTs_append]
 omega
theorem depthTs_append (xs ys : List Tm) : depthTs (xs ++ ys) = max (depthTs xs) (depthTs ys) := by
 induction xs with
 | nil => simp [depthTs]
 | cons x xs ih => simp only [List.cons_append, depthTs, ih]; omega
theorem depthTs_take {xs : List Tm} {k : Nat} (h : k < xs.length) : depthTs (xs.take (k + 1)) = max (depthTs (xs.take k)) (depthT xs[k]) := by
 rw [List.take_succ_eq_append_getElem h, depthTs_append]
 simp [depthTs]
theorem len_le_sizeTs (xs : List Tm) : xs.length ≤ sizeTs xs := by
 induction xs with
 | nil => simp
 | cons x xs ih => simp only [List.length_cons, sizeTs]; have := sizeT_pos x; omega
mutual
theorem depthT_le : ∀ t : Tm, depthT t ≤ sizeT t
 | .mk _ xs => by simp only [depthT, sizeT]; have := depthTs_le xs; omega
theorem depthTs_le : ∀ xs : List Tm, depthTs xs ≤ sizeTs xs
 | [] => by simp [depthTs, sizeTs]
 | x :: xs => by simp only [depthTs, sizeTs]; have := depthT_le x; have := depthTs_le xs; omega
end
def Box2 (b : Nat) (t : TypeId) (x y : Value) (w : World) : Prop := w.heap[b]? = some (.cells #[x, y] t (0, 0))
theorem Box2.lt {b : Nat} {t : TypeId} {x y : Value} {w : World} (h : Box2 b t x y w) : b < w.heap.size := (Array.getElem?_eq_some_iff.1 h).1
theorem Box2.cells {b : Nat} {t : TypeId} {x y : Value} {w : World} (h : Box2 b t x y w) : w.cell? ⟨b, 0, none⟩ = some x ∧ w.cell? ⟨b, 1, none⟩ = some y ∧ (∀ o, w.frozen? ⟨b, o, none⟩ = false) :=
 ⟨by rw [cell_of_row w b 0 _ _ _ h]; rfl, by rw [cell_of_row w b 1 _ _ _ h]; rfl, fun o => frozen_of_row w b o _ _ h⟩
theorem Box2.low {b : Nat} {t : TypeId} {x y : Value} {w w' : World} (h : Box2 b t x y w) (hb : Below w.heap.size w w') : Box2 b t x y w' := (hb.block b h.lt).trans h
theorem Box2.upd {b : Nat} {t : TypeId} {x y : Value} {w w' : World} {F : Nat → Prop} (h : Box2 b t x y w) (hu : Upd w w' F) (hF : ¬ F b) : Box2 b t x y w' := (hu.block b h.lt hF).trans h
theorem Box2.put0 {b : Nat} {t : TypeId} {x y : Value} {w : World} (h : Box2 b t x y w) (u : Value) : Box2 b t u y (w.setCell ⟨b, 0, none⟩ u) := by
 unfold Box2 at h ⊢
 have := heap_setCell_same w b 0 _ _ u h
 simpa using this
theorem Box2.put1 {b : Nat} {t : TypeId} {x y : Value} {w : World} (h : Box2 b t x y w) (u : Value) : Box2 b t x u (w.setCell ⟨b, 1, none⟩ u) := by
 unfold Box2 at h ⊢
 have := heap_setCell_same w b 1 _ _ u h
 simpa using this
theorem Box2.set {b : Nat} {t : TypeId} {x y : Value} {w : World} (h : Box2 b t x y w) (u v : Value) : Box2 b t u v ((w.setCell ⟨b, 0, none⟩ u).setCell ⟨b, 1, none⟩ v) ∧ Upd w ((w.setCell ⟨b, 0, none⟩ u).setCell ⟨b, 1, none⟩ v) (fun k => k = b) :=
 And.intro ((h.put0 u).put1 v) ((upd_set (w := w) (b := b) (o := 0) u).trans (upd_set (w := w.setCell ⟨b, 0, none⟩ u) (b := b) (o := 1) v) (fun _ h => .inl h))
structure BxS where
 la : Bool
 ls : Bool
 x : Value
 u0 : Value
 u1 : Value
def BoxJ (W : World) (t : TypeId) (z0 z1 : Value) (L : List BxS) (w : World) : Prop :=
 Below W.heap.size W w ∧ (∀ s ∈ L, s.ls = true → s.la = true) ∧
  ∃ bs : List Nat, bs.length = L.length ∧ (∀ p (h : p < L.length) (h2 : p < bs.length), L[p].la = true → L[p].x = .pointer (some ⟨bs[p], 0, none⟩) ∧ W.heap.size ≤ bs[p] ∧ Box2 bs[p] t (if L[p].ls then L[p].u0 else z0) (if L[p].ls then L[p].u1 else z1) w) ∧
    (∀ p q (h : p < L.length) (h' : q < L.length) (h2 : p < bs.length) (h3 : q < bs.length), p ≠ q → L[p].la = true → L[q].la = true → bs[p] ≠ bs[q])
theorem BoxJ.start {W w : World} {t : TypeId} {z0 z1 : Value} {L : List BxS} (hb : Below W.heap.size W w) (hL : ∀ s ∈ L, s.la = false ∧ s.ls = false) : BoxJ W t z0 z1 L w := by
 refine ⟨hb, fun s hs h => ?_, List.replicate L.length 0, by simp, fun p h h2 hla => ?_, fun p q h h' h2 h3 hpq hla => ?_⟩
 · rw [(hL s hs).2] at h; cases h
 · rw [(hL _ (List.getElem_mem h)).1] at hla; cases hla
 rw [(hL _ (List.getElem_mem h)).1] at hla; cases hla
theorem BoxJ.step {W w w' : World} {t : TypeId} {z0 z1 : Value} {L : List BxS} (h : BoxJ W t z0 z1 L w) (hb : Below w.heap.size w w') : BoxJ W t z0 z1 L w' := by
 obtain ⟨h1, h2, bs, h3, h4, h5⟩ := h
 exact ⟨h1.trans (hb.mono h1.size), h2, bs, h3, fun p hp hp2 hla => ⟨(h4 p hp hp2 hla).1, (h4 p hp hp2 hla).2.1, (h4 p hp hp2 hla).2.2.low hb⟩, h5⟩
theorem BoxJ.one {W w : World} {t : TypeId} {z0 z1 : Value} {L : List BxS} (h : BoxJ W t z0 z1 L w) : ∃ bs : List Nat, bs.length = L.length ∧ (∀ p (h : p < L.length) (h2 : p < bs.length), L[p].la = true → L[p].x = .pointer (some ⟨bs[p], 0, none⟩) ∧ W.heap.size ≤ bs[p] ∧ Box2 bs[p] t (if L[p].ls then L[p].u0 else z0) (if L[p].ls then L[p].u1 else z1) w) ∧
 (∀ p q (h : p < L.length) (h' : q < L.length) (h2 : p < bs.length) (h3 : q < bs.length), p ≠ q → L[p].la = true → L[q].la = true → bs[p] ≠ bs[q]) := h.2.2
theorem ltOf {w : World} {b : Nat} {o : Obj} (h : w.heap[b]? = some o) : b < w.heap.size := (Array.getElem?_eq_some_iff.1 h).1
theorem boxes1 (w : World) (o1 : Obj) : (w.alloc o1).heap[w.heap.size]? = some o1 ∧ Below w.heap.size w (w.alloc o1) ∧ (w.alloc o1).heap.size = w.heap.size + 1 := by
 refine ⟨?_, below_box w o1, by simp⟩
 rw [alloc_get, if_pos rfl]
theorem boxes2 (w : World) (o1 o2 : Obj) : ((w.alloc o1).alloc o2).heap[w.heap.size]? = some o1 ∧ ((w.alloc o1).alloc o2).heap[w.heap.size + 1]? = some o2 ∧ Below w.heap.size w ((w.alloc o1).alloc o2) ∧ ((w.alloc o1).alloc o2).heap.size = w.heap.size + 2 := by
 refine ⟨?_, ?_, (below_box w o1).trans ((below_box _ o2).mono (by simp)), by simp⟩
 · rw [alloc_get, if_neg (by simp), alloc_get, if_pos rfl]
 rw [alloc_get, if_pos (by simp)]
theorem boxes3 (w : World) (o1 o2 o3 : Obj) : (((w.alloc o1).alloc o2).alloc o3).heap[w.heap.size]? = some o1 ∧ (((w.alloc o1).alloc o2).alloc o3).heap[w.heap.size + 1]? = some o2 ∧ (((w.alloc o1).alloc o2).alloc o3).heap[w.heap.size + 1 + 1]? = some o3 ∧
 Below w.heap.size w (((w.alloc o1).alloc o2).alloc o3) ∧ (((w.alloc o1).alloc o2).alloc o3).heap.size = w.heap.size + 3 := by
 obtain ⟨h1, h2, h3, h4⟩ := boxes2 w o1 o2
 refine ⟨?_, ?_, ?_, h3.trans ((below_box _ o3).mono (by rw [h4]; omega)), by rw [alloc_size, h4]⟩
 · rw [alloc_get, if_neg (by rw [h4]; omega), h1]
 · rw [alloc_get, if_neg (by rw [h4]; omega), h2]
 rw [alloc_get, if_pos (by rw [h4])]
theorem wp_skip {P : Program} {Q : Exit → Act → World → Prop} {o : Oper} {K : Act → World → Prop} {a : Act} {w w' : World} (h : (execOp a.eval o).run P w = .ok .skip w') (hk : K (a.put o.dst undef) w') : o.wp P a w K Q := by
 unfold Oper.wp
 rw [h]
 exact hk
theorem encTms_set (xs : List Tm) (k : Nat) (x : Tm) : encTms (xs.set k x) = (encTms xs).set k (encTm x) := by
 rw [encTms_map, encTms_map, List.map_set]
theorem getLast_lt {α : Type} {l : List α} {k : Nat} (h : k < l.length) : l[k]? = some l[k] := List.getElem?_eq_getElem h
def Box5 (b : Nat) (t : TypeId) (x y z u v : Value) (w : World) : Prop := w.heap[b]? = some (.cells #[x, y, z, u, v] t (0, 0))
section
variable {b : Nat} {t : TypeId} {x y z u v : Value} {w w' : World}
theorem Box5.lt (h : Box5 b t x y z u v w) : b < w.heap.size := (Array.getElem?_eq_some_iff.1 h).1
theorem Box5.cells (h : Box5 b t x y z u v w) : w.cell? ⟨b, 0, none⟩ = some x ∧ w.cell? ⟨b, 1, none⟩ = some y ∧ w.cell? ⟨b, 2, none⟩ = some z ∧ w.cell? ⟨b, 3, none⟩ = some u ∧ w.cell? ⟨b, 4, none⟩ = some v :=
 ⟨by rw [cell_of_row w b 0 _ _ _ h]; rfl, by rw [cell_of_row w b 1 _ _ _ h]; rfl, by rw [cell_of_row w b 2 _ _ _ h]; rfl, by rw [cell_of_row w b 3 _ _ _ h]; rfl, by rw [cell_of_row w b 4 _ _ _ h]; rfl⟩
theorem Box5.upd {F : Nat → Prop} (h : Box5 b t x y z u v w) (hu : Upd w w' F) (hF : ¬ F b) : Box5 b t x y z u v w' := (hu.block b h.lt hF).trans h
end
theorem wr64 (z : Int) (h : -9223372036854775808 ≤ z ∧ z ≤ 9223372036854775807) : IntKind.i64.wrap z = z := IntWalk.i64_in _ (by omega)
theorem nsT : SliceTy Tryz.prog 36 3 1 8 := sliceTy Tryz.underlying36 (by kernel_rfl : (Tryz.prog.info? 3).map (fun i => (i.zero, i.size, i.bytes)) = some (some (.int .i64 0), 1, 8)) rfl (by decide)
def BoolRes (b : Bool) (w : World) (e : Ending) (w' : World) : Prop := e = .returned (.bool b) ∧ Below w.heap.size w w'
def IntRes (n : Int) (w : World) (e : Ending) (w' : World) : Prop := e = .returned (.int .i64 n) ∧ Below w.heap.size w w'
theorem size2_any (d : Nat) : ∀ (f : Int) (xs : List Tm) (v2 : Value) (B : Nat) (w : World), sizeTs xs < d → sizeTs xs ≤ 10000000000 → Rd w B (.sl 2 (encTms xs)) v2 → B ≤ w.heap.size →
 Calls Tryz.prog 20 #[.agg #[.int .i64 f, v2]] w (IntRes (sizeTs xs + 1 : Nat) w) := by
 induction d with
 | zero => intro f xs v2 B w h; omega
 | succ d ih =>
 intro f xs v2 B w hd hz hr hB
 obtain ⟨A, c, rfl, hc, hn, hm⟩ := hr.tm_form
 have H3 := Lh hr
 have Hih := Lh ih
 clear hr ih
 go_enter Tryz.func20, Tryz.ntmps20
 go_wp2_with fail
 go_loopw [3, 4] (fun n i wr => ∃ k : Nat, k ≤ xs.length ∧ i = .int .i64 k ∧ n = .int .i64 ((sizeTs (xs.take k) + 1 : Nat) : Int) ∧ Below w.heap.size w wr ∧ wr.heap[w.heap.size]? = some (Obj.cells #[Value.int .i64 f, Value.slice A xs.length c] 32 (0, 0))) (fun _ i _ => xs.length - (intOf i).toNat)
 case atStart => exact ⟨0, Nat.zero_le _, rfl, rfl, below_box w _, heap_alloc_new w _⟩
 obtain ⟨k, hk, rfl, rfl, hbel, hown⟩ := hrel
 have hsz := ltOf hown
 have hown2 := fun o => cell_of_row wr w.heap.size o _ _ _ hown
 have Hown := Lh hown
 have Hbel := Lh hbel
 clear hown hbel
 by_cases hlt : k < xs.length
 · obtain ⟨ab, off, f', ys, A2, c2, rfl, hxk, hb, c0, c1, hrd⟩ := (H3.out.low Hbel.out hB).tm_at hlt
   have h1 := sizeTs_mem hlt
   have h2 := sizeTs_take hlt
   have h3 := sizeTs_take_le xs (k + 1)
   rw [hxk] at h1 h2
   simp only [sizeT] at h1 h2
   have Hr := Lh hrd
   clear hxk hrd
   go_wp2_with (
    go_at_call 20
    refine (Hih.out f' ys _ _ _ (by omega) (by omega) Hr.out (by have := Hbel.out.size; omega)).mono ?_
    rintro e w1 ⟨rfl, hb1⟩)
   go_roundw
   case rel =>
    have hb2 : Below wr.heap.size wr w1 := by exact hb1
    refine ⟨k + 1, by omega, by go_num, ?_, Hbel.out.trans (hb2.mono (by omega)), ?_⟩
    · rw [h2]; congr 1; omega
    rw [hb2.block _ hsz]; exact Hown.out
   case measure => simp [intOf]; omega
 have e : xs.take k = xs := List.take_of_length_le (by omega)
 rw [e]
 go_wp2_with fail
 go_ret
 exact ⟨rfl, Hbel.out⟩
theorem depth2_any (d : Nat) : ∀ (f : Int) (xs : List Tm) (v2 : Value) (B : Nat) (w : World), sizeTs xs < d → sizeTs xs ≤ 10000000000 → Rd w B (.sl 2 (encTms xs)) v2 → B ≤ w.heap.size →
 Calls Tryz.prog 73 #[.agg #[.int .i64 f, v2]] w (IntRes (depthTs xs + 1 : Nat) w) := by
 induction d with
 | zero => intro f xs v2 B w h; omega
 | succ d ih =>
 intro f xs v2 B w hd hz hr hB
 obtain ⟨A, c, rfl, hc, hn, hm⟩ := hr.tm_form
 have H3 := Lh hr
 have Hih := Lh ih
 clear hr ih
 go_enter Tryz.func73, Tryz.ntmps73
 go_wp2_with fail
 go_loopw [3, 4] (fun n i wr => ∃ k : Nat, k ≤ xs.length ∧ i = .int .i64 k ∧ n = .int .i64 (depthTs (xs.take k) : Nat) ∧ Below w.heap.size w wr ∧ wr.heap[w.heap.size]? = some (Obj.cells #[Value.int .i64 f, Value.slice A xs.length c] 32 (0, 0))) (fun _ i _ => xs.length - (intOf i).toNat)
 case atStart => exact ⟨0, Nat.zero_le _, rfl, rfl, below_box w _, heap_alloc_new w _⟩
 obtain ⟨k, hk, rfl, rfl, hbel, hown⟩ := hrel
 have hsz := ltOf hown
 have hown2 := fun o => cell_of_row wr w.heap.size o _ _ _ hown
 have Hown := Lh hown
 have Hbel := Lh hbel
 clear hown hbel
 by_cases hlt : k < xs.length
 · obtain ⟨ab, off, f', ys, A2, c2, rfl, hxk, hb, c0, c1, hrd⟩ := (H3.out.low Hbel.out hB).tm_at hlt
   have h1 := sizeTs_mem hlt
   have h4 := depthTs_take hlt
   have h5 := depthTs_le ys
   have h6 := depthTs_le (xs.take k)
   have h7 := sizeTs_take_le xs k
   rw [hxk] at h1 h4
   simp only [sizeT, depthT] at h1 h4
   have Hr := Lh hrd
   have H4 := Lh h4
   clear hxk hrd h4
   go_wp2_with (
    go_at_call 73
    refine (Hih.out f' ys _ _ _ (by omega) (by omega) Hr.out (by have := Hbel.out.size; omega)).mono ?_
    rintro e w1 ⟨rfl, hb1⟩)
   go_roundw
   case rel =>
    have hb2 : Below wr.heap.size wr w1 := by exact hb1
    refine ⟨k + 1, by omega, by go_num, ?_, Hbel.out.trans (hb2.mono (by omega)), ?_⟩
    · rw [H4.out]; congr 1; omega
    rw [hb2.block _ hsz]; exact Hown.out
   case measure => simp [intOf]; omega
 have e : xs.take k = xs := List.take_of_length_le (by omega)
 have h6 := depthTs_le xs
 rw [e]
 go_wp2_with fail
 go_ret
 exact ⟨by simp, Hbel.out⟩
mutual
def lowB (most : Int) : Tm → Bool
 | .mk f xs => if f < 0 then decide (-most ≤ f) && decide (xs.length = 0) else lowBs most xs
def lowBs (most : Int) : List Tm → Bool
 | [] => true
 | x :: xs => lowB most x && lowBs most xs
end
theorem lowBs_all (m : Int) : ∀ xs : List Tm, lowBs m xs = xs.all (lowB m)
 | [] => by rw [lowBs]; rfl
 | x :: xs => by rw [lowBs, lowBs_all m xs]; rfl
theorem low_any (d : Nat) : ∀ (f : Int) (xs : List Tm) (v2 : Value) (B : Nat) (w : World) (most : Int), sizeTs xs < d → 0 ≤ most → most ≤ 1000000 → Rd w B (.sl 2 (encTms xs)) v2 → B ≤ w.heap.size →
 Calls Tryz.prog 74 #[.agg #[.int .i64 f, v2], .int .i64 most] w (BoolRes (lowB most (.mk f xs)) w) := by
 induction d with
 | zero => intro f xs v2 B w most h; omega
 | succ d ih =>
 intro f xs v2 B w most hd hm0 hm1 hr hB
 obtain ⟨A, c, rfl, hc, hn, hm⟩ := hr.tm_form
 have H3 := Lh hr
 have Hih := Lh ih
 clear hr ih
 by_cases hf : f < 0
 · have e : lowB most (.mk f xs) = (decide (-most ≤ f) && ((xs.length : Int) == 0)) := by rw [lowB, if_pos hf]; congr 1; rw [Bool.eq_iff_iff]; simp
   rw [e]
   have hmn : wrap64 (-most) = -most := by unfold wrap64; omega
   clear e
   by_cases h1 : -most ≤ f
   · have h1' : (decide (-most ≤ f)) = true := by simp [h1]
     rw [h1', Bool.true_and]
     go_enter Tryz.func74, Tryz.ntmps74
     go_wp2_with fail
     go_ret
     exact ⟨rfl, below_box w _⟩
   have h1' : (decide (-most ≤ f)) = false := by simp; omega
   rw [h1', Bool.false_and]
   go_enter Tryz.func74, Tryz.ntmps74
   go_wp2_with fail
   go_ret
   exact ⟨rfl, below_box w _⟩
 have e : lowB most (.mk f xs) = xs.all (lowB most) := by rw [lowB, if_neg hf, lowBs_all]
 have He := Lh e
 clear e
 go_enter Tryz.func74, Tryz.ntmps74
 go_wp2_with fail
 go_loopw [5] (fun i wr => ∃ k : Nat, k ≤ xs.length ∧ i = .int .i64 k ∧ (∀ j (h : j < xs.length), j < k → lowB most xs[j] = true) ∧ Below w.heap.size w wr ∧ wr.heap[w.heap.size]? = some (Obj.cells #[Value.int .i64 f, Value.slice A xs.length c] 32 (0, 0))) (fun i _ => xs.length - (intOf i).toNat)
 case atStart => exact ⟨0, Nat.zero_le _, rfl, fun j _ hj => by omega, below_box w _, heap_alloc_new w _⟩
 obtain ⟨k, hk, rfl, hall, hbel, hown⟩ := hrel
 have hsz := ltOf hown
 have hown2 := fun o => cell_of_row wr w.heap.size o _ _ _ hown
 have Hall := Lh hall
 have Hown := Lh hown
 have Hbel := Lh hbel
 clear hown hbel hall
 by_cases hlt : k < xs.length
 · obtain ⟨ab, off, f', ys, A2, c2, rfl, hxk, hb, c0, c1, hrd⟩ := (H3.out.low Hbel.out hB).tm_at hlt
   have h1 := sizeTs_mem hlt
   rw [hxk] at h1
   simp only [sizeT] at h1
   obtain ⟨b, hb'⟩ : ∃ b, lowB most xs[k] = b := ⟨_, rfl⟩
   have hcl := Hih.out f' ys _ _ wr most (by omega) hm0 hm1 hrd (by have := Hbel.out.size; omega)
   rw [← hxk, hb'] at hcl
   have Hcl := Lh hcl
   have Hb := Lh hb'
   clear hxk hrd hb' hcl
   cases b with
   | false =>
     go_wp2_with (
      go_at_call 74
      refine Hcl.out.mono ?_
      rintro e w1 ⟨rfl, hb1⟩)
     go_ret
     have ha : xs.all (lowB most) = false := List.all_eq_false.2 ⟨_, List.getElem_mem hlt, by rw [Hb.out]; decide⟩
     rw [He.out, ha]
     exact ⟨rfl, Hbel.out.trans (hb1.mono Hbel.out.size)⟩
   | true =>
     go_wp2_with (
      go_at_call 74
      refine Hcl.out.mono ?_
      rintro e w1 ⟨rfl, hb1⟩)
     go_roundw
     case rel =>
      refine ⟨k + 1, by omega, by go_num, fun j hj hjk => ?_, Hbel.out.trans (hb1.mono Hbel.out.size), ?_⟩
      · by_cases e : j = k
        · subst e; exact Hb.out
        exact Hall.out j hj (by omega)
      rw [hb1.block _ hsz]; exact Hown.out
     case measure => simp [intOf]; omega
 go_wp2_with fail
 go_ret
 have ha : xs.all (lowB most) = true := List.all_eq_true.2 fun x hx => by
  obtain ⟨j, hj, rfl⟩ := List.mem_iff_getElem.1 hx
  exact Hall.out j hj (by omega)
 rw [He.out, ha]
 exact ⟨rfl, Hbel.out⟩
def letterP (c : Int) : Prop := (97 ≤ c ∧ c ≤ 122) ∨ (65 ≤ c ∧ c ≤ 90) ∨ (48 ≤ c ∧ c ≤ 57) ∨ c = 95
instance (c : Int) : Decidable (letterP c) := by unfold letterP; infer_instance
theorem letter_any (c : Int) (w : World) : Calls Tryz.prog 97 #[.int .u8 c] w (BoolRes (decide (letterP c)) w) := by
 obtain ⟨b, hb⟩ : ∃ b, decide (letterP c) = b := ⟨_, rfl⟩
 rw [hb]
 by_cases a1 : 97 ≤ c
 · by_cases a2 : c ≤ 122
   · have hf : b = true := by rw [← hb]; exact decide_eq_true (by unfold letterP; omega)
     have Hf := Lh hf
     clear hf hb
     go_enter Tryz.func97, Tryz.ntmps97
     go_wp2_with fail
     go_ret
     exact ⟨by rw [Hf.out]; rfl, Below.refl _ _⟩
   have a2' : 122 < c := by omega
   have a3 : 65 ≤ c := by omega
   have a4 : ¬ c ≤ 90 := by omega
   have a5 : 48 ≤ c := by omega
   have a6 : ¬ c ≤ 57 := by omega
   have a7 : (c == 95) = false := by simp; omega
   have hf : b = false := by rw [← hb]; exact decide_eq_false (by unfold letterP; omega)
   have Hf := Lh hf
   clear hf hb
   go_enter Tryz.func97, Tryz.ntmps97
   go_wp2_with fail
   go_ret
   exact ⟨by rw [Hf.out]; rfl, Below.refl _ _⟩
 have a1' : c < 97 := by omega
 by_cases a3 : 65 ≤ c
 · by_cases a4 : c ≤ 90
   · have hf : b = true := by rw [← hb]; exact decide_eq_true (by unfold letterP; omega)
     have Hf := Lh hf
     clear hf hb
     go_enter Tryz.func97, Tryz.ntmps97
     go_wp2_with fail
     go_ret
     exact ⟨by rw [Hf.out]; rfl, Below.refl _ _⟩
   have a4' : 90 < c := by omega
   have a5 : 48 ≤ c := by omega
   have a6 : ¬ c ≤ 57 := by omega
   by_cases a7 : c = 95
   · subst a7
     have hf : b = true := by rw [← hb]; exact decide_eq_true (by unfold letterP; omega)
     have Hf := Lh hf
     clear hf hb
     go_enter Tryz.func97, Tryz.ntmps97
     go_wp2_with fail
     go_ret
     exact ⟨by rw [Hf.out]; rfl, Below.refl _ _⟩
   have a7' : (c == 95) = false := by simpa using a7
   have hf : b = false := by rw [← hb]; exact decide_eq_false (by unfold letterP; omega)
   have Hf := Lh hf
   clear hf hb
   go_enter Tryz.func97, Tryz.ntmps97
   go_wp2_with fail
   go_ret
   exact ⟨by rw [Hf.out]; rfl, Below.refl _ _⟩
 have a3' : c < 65 := by omega
 by_cases a5 : 48 ≤ c
 · by_cases a6 : c ≤ 57
   · have hf : b = true := by rw [← hb]; exact decide_eq_true (by unfold letterP; omega)
     have Hf := Lh hf
     clear hf hb
     go_enter Tryz.func97, Tryz.ntmps97
     go_wp2_with fail
     go_ret
     exact ⟨by rw [Hf.out]; rfl, Below.refl _ _⟩
   have a6' : 57 < c := by omega
   by_cases a7 : c = 95
   · subst a7
     have hf : b = true := by rw [← hb]; exact decide_eq_true (by unfold letterP; omega)
     have Hf := Lh hf
     clear hf hb
     go_enter Tryz.func97, Tryz.ntmps97
     go_wp2_with fail
     go_ret
     exact ⟨by rw [Hf.out]; rfl, Below.refl _ _⟩
   have a7' : (c == 95) = false := by simpa using a7
   have hf : b = false := by rw [← hb]; exact decide_eq_false (by unfold letterP; omega)
   have Hf := Lh hf
   clear hf hb
   go_enter Tryz.func97, Tryz.ntmps97
   go_wp2_with fail
   go_ret
   exact ⟨by rw [Hf.out]; rfl, Below.refl _ _⟩
 have a5' : c < 48 := by omega
 have a7 : (c == 95) = false := by simp; omega
 have hf : b = false := by rw [← hb]; exact decide_eq_false (by unfold letterP; omega)
 have Hf := Lh hf
 clear hf hb
 go_enter Tryz.func97, Tryz.ntmps97
 go_wp2_with fail
 go_ret
 exact ⟨by rw [Hf.out]; rfl, Below.refl _ _⟩
def IfB (Q : Prop) (w : World) (e : Ending) (w' : World) : Prop := ∃ b, e = .returned (.bool b) ∧ (Q → b = true) ∧ Below w.heap.size w w'
def LettersP (s : ByteArray) : Prop := ∀ k (h : k < s.size), letterP (s[k].toNat : Nat)
theorem every_any (s : ByteArray) (w : World) (hsz : s.size ≤ 1000000) : Calls Tryz.prog 96 #[.string s, .func (.func 97) #[] #[]] w (IfB (LettersP s) w) := by
 go_enter Tryz.func96, Tryz.ntmps96
 go_wp2_with fail
 go_loopw [8] (fun i wr => ∃ k : Nat, k ≤ s.size ∧ i = .int .i64 k ∧ Below w.heap.size w wr) (fun i _ => s.size - (intOf i).toNat)
 case atStart => exact ⟨0, Nat.zero_le _, rfl, Below.refl _ _⟩
 obtain ⟨k, hk, rfl, hbel⟩ := hrel
 have hzr := hbel.size
 have Hbel := Lh hbel
 clear hbel
 by_cases hlt : k < s.size
 · have hlt2 : ¬ ((s.size : Int) ≤ (k : Int)) := by omega
   have hle := letter_any (s[k].toNat : Nat)
   have hP : LettersP s → letterP (s[k].toNat : Nat) := fun h => h k hlt
   have Hle := Lh hle
   have HP := Lh hP
   clear hle hP
   go_wp2_with fail
   refine (Hle.out wr).mono ?_
   rintro e w2 ⟨rfl, hb2⟩
   have Hb2 := Lh (Hbel.out.trans (hb2.mono hzr))
   clear hb2
   by_cases hp : letterP (s[k].toNat : Nat)
   · have hd : decide (letterP (s[k].toNat : Nat)) = true := decide_eq_true hp
     rw [hd]
     go_wp2_with fail
     go_roundw
     case rel => exact ⟨k + 1, by omega, by go_num, Hb2.out⟩
     case measure => simp [intOf]; omega
   have hd : decide (letterP (s[k].toNat : Nat)) = false := decide_eq_false hp
   rw [hd]
   go_wp2_with fail
   go_ret
   exact ⟨false, rfl, fun h => absurd (HP.out h) hp, Hb2.out⟩
 go_wp2_with fail
 go_ret
 exact ⟨true, rfl, fun _ => rfl, Hbel.out⟩
def NameP (s : ByteArray) : Prop := 0 < s.size ∧ s.size ≤ 40 ∧ LettersP s
theorem loop_ne (bs : ByteArray) : ∀ (n i : Nat) (r : List UInt8), bs.size - i = n → r ≠ [] → ByteArray.toList.loop bs i r ≠ []
 | 0, i, r, hn, hr => by
   unfold ByteArray.toList.loop
   rw [if_neg (by omega)]
   simpa using hr
 | n + 1, i, r, hn, hr => by
   unfold ByteArray.toList.loop
   rw [if_pos (by omega)]
   exact loop_ne bs n (i + 1) _ (by omega) (by simp)
theorem toList_ne (s : ByteArray) (h : 0 < s.size) : s.toList ≠ [] := by
 unfold ByteArray.toList ByteArray.toList.loop
 rw [if_pos h]
 exact loop_ne s _ _ _ rfl (by simp)
theorem toList_nil (s : ByteArray) (h : ¬ 0 < s.size) : s.toList = [] := by
 unfold ByteArray.toList ByteArray.toList.loop
 rw [if_neg h]; rfl
theorem named28_any (s : ByteArray) (w : World) : Calls Tryz.prog 80 #[.string s] w (IfB (NameP s) w) := by
 by_cases h1 : 0 < s.size
 · have hne := toList_ne s h1
   by_cases h2 : s.size ≤ 40
   · have h2' : (s.size : Int) ≤ 40 := by omega
     have hev := every_any s w (by omega)
     have Hev := Lh hev
     have H1 := Lh h1
     clear hev h1
     go_enter Tryz.func80, Tryz.ntmps80
     go_wp2_with fail
     refine Hev.out.mono ?_
     rintro e w1 ⟨b, rfl, hb, hbl⟩
     have Hb := Lh hb
     have Hbl := Lh hbl
     clear hb hbl
     have hne2 : (s.toList == []) = false := by simpa using hne
     have hne3 : (!s.toList.isEmpty) = true := by simpa using hne
     go_wp2_with fail
     go_ret
     refine ⟨b, ?_, fun h => Hb.out h.2.2, Hbl.out⟩
     simp [hne]
   have h2' : ¬ (s.size : Int) ≤ 40 := by omega
   go_enter Tryz.func80, Tryz.ntmps80
   go_wp2_with fail
   go_ret
   exact ⟨_, rfl, fun h => absurd h.2.1 h2, Below.refl _ _⟩
 have hne := toList_nil s h1
 go_enter Tryz.func80, Tryz.ntmps80
 go_wp2_with fail
 go_ret
 exact ⟨_, rfl, fun h => absurd h.1 h1, Below.refl _ _⟩
theorem flatten_set2 {α : Type} (u v : α) : ∀ (rows : List (List α)) (k : Nat), (∀ r ∈ rows, r.length = 2) → k < rows.length → (rows.set k [u, v]).flatten = (rows.flatten.set (k * 2) u).set (k * 2 + 1) v
 | [], k, _, h => by simp at h
 | r :: rows, 0, hr, _ => by
   have h2 := hr r (List.mem_cons_self ..)
   match r, h2 with
   | [a, b], _ => simp
 | r :: rows, k + 1, hr, h => by
   have h2 := hr r (List.mem_cons_self ..)
   have ih := flatten_set2 u v rows k (fun r h => hr r (List.mem_cons_of_mem _ h)) (by simpa using h)
   match r, h2 with
   | [a, b], _ =>
     have e1 : (k + 1) * 2 = k * 2 + 1 + 1 := by omega
     rw [List.set_cons_succ, List.flatten_cons, List.flatten_cons, ih, e1]
     simp
theorem Own.setRow2 {w : World} {base g n c k : Nat} {e : TypeId} {rows : List (List Value)} (h : Own w base e 2 (.slice (some ⟨g, 0, none⟩) n c) rows) (hk : k < rows.length) (u0 u1 : Value) :
 Own ((w.setCell ⟨g, k * 2, none⟩ u0).setCell ⟨g, k * 2 + 1, none⟩ u1) base e 2 (.slice (some ⟨g, 0, none⟩) n c) (rows.set k [u0, u1]) := by
 have hn : n = rows.length := by
  obtain ⟨A, c', hv, _⟩ := h.form
  injection hv
 subst hn
 have h1 := h.1
 have h2 := (h1.stored (k * 2) u0).1
 have h3 := (h2.stored (k * 2 + 1) u1).1
 refine ⟨?_, ?_⟩
 · rw [List.length_set, flatten_set2 _ _ rows k h.2 hk]
   exact h3
 intro r hr
 rcases List.mem_or_eq_of_mem_set hr with h' | rfl
 · exact h.2 r h'
 rfl
theorem OwnR.set2 {w : World} {M : Nat → Prop} {base g n c k : Nat} {e : TypeId} {trs : List (List Tr)} (h : OwnR w M base e 2 (.slice (some ⟨g, 0, none⟩) n c) trs) (hk : k < trs.length) {t0 t1 : Tr} {u0 u1 : Value}
 (h0 : RdP w (fun b => NbP M base b ∧ b ≠ g) t0 u0) (h1 : RdP w (fun b => NbP M base b ∧ b ≠ g) t1 u1) :
 OwnR ((w.setCell ⟨g, k * 2, none⟩ u0).setCell ⟨g, k * 2 + 1, none⟩ u1) M base e 2 (.slice (some ⟨g, 0, none⟩) n c) (trs.set k [t0, t1]) := by
 obtain ⟨rows, ho, hl, hr, hc⟩ := h
 have hup : Upd w ((w.setCell ⟨g, k * 2, none⟩ u0).setCell ⟨g, k * 2 + 1, none⟩ u1) (fun i => i = g) :=
  (upd_set (w := w) (b := g) (o := k * 2) u0).trans (upd_set (w := w.setCell ⟨g, k * 2, none⟩ u0) (b := g) (o := k * 2 + 1) u1) (fun _ h => .inl h)
 have hkr : k < rows.length := by omega
 have conv : ∀ {t : Tr} {u : Value}, RdP w (fun b => NbP M base b ∧ b ≠ g) t u → RdP ((w.setCell ⟨g, k * 2, none⟩ u0).setCell ⟨g, k * 2 + 1, none⟩ u1) (fun b => NbP M base b ∧ (Value.slice (some ⟨g, 0, none⟩) n c).ownBlock ≠ some b) t u := fun hh =>
  (hh.upd hup (fun b hb _ => hb.2)).more fun b hb _ => ⟨hb.1, fun e => hb.2 (by have : g = b := Option.some.inj e; exact this.symm)⟩
 refine ⟨rows.set k [u0, u1], ho.setRow2 hkr u0 u1, by simp [hl], ?_, ?_⟩
 · intro r hr'
   rcases List.mem_or_eq_of_mem_set hr' with h' | rfl
   · exact hr r h'
   rfl
 intro j hj hj2 i hi hi2
 by_cases hjk : k = j
 · subst hjk
   simp only [List.getElem_set_self] at hi hi2 ⊢
   match i, hi with
   | 0, _ => exact conv h0
   | 1, _ => exact conv h1
 simp only [List.getElem_set_ne hjk] at hi hi2 ⊢
 exact conv ((hc j (by simpa using hj) (by simpa using hj2) i hi hi2).more fun b hb _ => ⟨hb.1, fun e => hb.2 (by rw [e]; rfl)⟩)
theorem OwnR.row2 {w : World} {M : Nat → Prop} {base n c k : Nat} {A : Option Addr} {e : TypeId} {trs : List (List Tr)} (h : OwnR w M base e 2 (.slice A n c) trs) (hk : k < trs.length) :
 ∃ g u0 u1, A = some ⟨g, 0, none⟩ ∧ base ≤ g ∧ g < w.heap.size ∧ n = trs.length ∧ w.cell? ⟨g, k * 2, none⟩ = some u0 ∧ w.cell? ⟨g, k * 2 + 1, none⟩ = some u1 ∧ (∀ j, w.frozen? ⟨g, j, none⟩ = false) ∧
   (∀ (h0 : 0 < trs[k].length), RdP w (fun b => NbP M base b ∧ b ≠ g) trs[k][0] u0) ∧ (∀ (h1 : 1 < trs[k].length), RdP w (fun b => NbP M base b ∧ b ≠ g) trs[k][1] u1) := by
 obtain ⟨rows, ho, hl, hr, hc⟩ := h
 have hkr : k < rows.length := by omega
 obtain ⟨g, hA, hb, hg, hcell, _⟩ := ho.row_at (k := k) hkr (by decide)
 have hrl : rows[k].length = 2 := ho.2 _ (List.getElem_mem hkr)
 have htl : trs[k].length = 2 := hr _ (List.getElem_mem hk)
 have hn : n = rows.length := by
  obtain ⟨A, c', hv, _⟩ := ho.form
  injection hv
 refine ⟨g, rows[k][0], rows[k][1], hA, hb, hg, by omega, hcell 0 (by decide), hcell 1 (by decide), fun j => ?_, fun h0 => ?_, fun h1 => ?_⟩
 · subst hA
   rcases ho.1.2 with ⟨h', _⟩ | ⟨g', cap, cur, h', _, hh, _⟩
   · cases h'
   injection h' with h' _ _
   injection h' with h'
   injection h' with h' _ _
   subst h'
   exact frozen_of_row w _ j cur e hh
 · exact (hc k hk hkr 0 (by omega) (by omega)).more fun b hb' _ => ⟨hb'.1, fun e => hb'.2 (by rw [hA, e]; rfl)⟩
 exact (hc k hk hkr 1 (by omega) (by omega)).more fun b hb' _ => ⟨hb'.1, fun e => hb'.2 (by rw [hA, e]; rfl)⟩
theorem flatten_set1 {α : Type} (u : α) {size d : Nat} (hd : d < size) : ∀ (rows : List (List α)) (k : Nat), (∀ r ∈ rows, r.length = size) → (hk : k < rows.length) → (rows.set k (rows[k].set d u)).flatten = rows.flatten.set (k * size + d) u
 | [], k, _, h => by simp at h
 | r :: rows, 0, hr, _ => by
   have h2 := hr r (List.mem_cons_self ..)
   simp only [List.set_cons_zero, List.getElem_cons_zero, List.flatten_cons, Nat.zero_mul, Nat.zero_add]
   rw [List.set_append_left _ _ (by omega)]
 | r :: rows, k + 1, hr, h => by
   have h2 := hr r (List.mem_cons_self ..)
   have ih := flatten_set1 u hd rows k (fun r h => hr r (List.mem_cons_of_mem _ h)) (by simpa using h)
   have e1 : (k + 1) * size + d = k * size + d + r.length := by rw [Nat.succ_mul]; omega
   simp only [List.set_cons_succ, List.getElem_cons_succ, List.flatten_cons]
   rw [ih, e1, List.set_append_right _ _ (by omega)]
   congr 2
   omega
theorem Own.setPart {w : World} {base g n c k size d : Nat} {e : TypeId} {rows : List (List Value)} (h : Own w base e size (.slice (some ⟨g, 0, none⟩) n c) rows) (hk : k < rows.length) (hd : d < size) (u : Value) :
 Own (w.setCell ⟨g, k * size + d, none⟩ u) base e size (.slice (some ⟨g, 0, none⟩) n c) (rows.set k (rows[k].set d u)) := by
 have hn : n = rows.length := by
  obtain ⟨A, c', hv, _⟩ := h.form
  injection hv
 subst hn
 have h1 := h.1
 have h2 := (h1.stored (k * size + d) u).1
 refine ⟨?_, ?_⟩
 · rw [List.length_set, flatten_set1 u hd rows k h.2 hk]
   exact h2
 intro r hr
 rcases List.mem_or_eq_of_mem_set hr with h' | rfl
 · exact h.2 r h'
 rw [List.length_set]
 exact h.2 _ (List.getElem_mem hk)
theorem OwnR.setPart {w : World} {M : Nat → Prop} {base g n c k size d : Nat} {e : TypeId} {trs : List (List Tr)} (h : OwnR w M base e size (.slice (some ⟨g, 0, none⟩) n c) trs) (hk : k < trs.length) (hd : d < size) {t : Tr} {u : Value}
 (h0 : RdP w (fun b => NbP M base b ∧ b ≠ g) t u) :
 OwnR (w.setCell ⟨g, k * size + d, none⟩ u) M base e size (.slice (some ⟨g, 0, none⟩) n c) (trs.set k (trs[k].set d t)) := by
 obtain ⟨rows, ho, hl, hr, hc⟩ := h
 have hup : Upd w (w.setCell ⟨g, k * size + d, none⟩ u) (fun i => i = g) := upd_set (w := w) (b := g) (o := k * size + d) u
 have hkr : k < rows.length := by omega
 have conv : ∀ {t : Tr} {x : Value}, RdP w (fun b => NbP M base b ∧ b ≠ g) t x → RdP (w.setCell ⟨g, k * size + d, none⟩ u) (fun b => NbP M base b ∧ (Value.slice (some ⟨g, 0, none⟩) n c).ownBlock ≠ some b) t x := fun hh =>
  (hh.upd hup (fun b hb _ => hb.2)).more fun b hb _ => ⟨hb.1, fun e => hb.2 (by have : g = b := Option.some.inj e; exact this.symm)⟩
 have old : ∀ j (hj : j < trs.length) (hj2 : j < rows.length) i (hi : i < trs[j].length) (hi2 : i < rows[j].length), RdP w (fun b => NbP M base b ∧ b ≠ g) trs[j][i] rows[j][i] := fun j hj hj2 i hi hi2 =>
  (hc j hj hj2 i hi hi2).more fun b hb _ => ⟨hb.1, fun e => hb.2 (by rw [e]; rfl)⟩
 refine ⟨rows.set k (rows[k].set d u), ho.setPart hkr hd u, by simp [hl], ?_, ?_⟩
 · intro r hr'
   rcases List.mem_or_eq_of_mem_set hr' with h' | rfl
   · exact hr r h'
   rw [List.length_set]
   exact hr _ (List.getElem_mem hk)
 intro j hj hj2 i hi hi2
 rw [List.length_set] at hj hj2
 by_cases hjk : k = j
 · subst hjk
   simp only [List.getElem_set_self, List.length_set] at hi hi2 ⊢
   by_cases hdi : d = i
   · subst hdi
     simp only [List.getElem_set_self]
     exact conv h0
   simp only [List.getElem_set_ne hdi]
   exact conv (old k hj hj2 i hi hi2)
 simp only [List.getElem_set_ne hjk] at hi hi2 ⊢
 exact conv (old j hj hj2 i hi hi2)
theorem termT : SliceTy Tryz.prog 30 32 2 32 := sliceTy Tryz.underlying30 (by kernel_rfl : (Tryz.prog.info? 32).map (fun i => (i.zero, i.size, i.bytes)) = some (some (.agg #[.int .i64 0, .slice none 0 0]), 2, 32)) rfl (by decide)
theorem OwnR.base_le {w : World} {M : Nat → Prop} {base base' size : Nat} {e : TypeId} {v : Value} {trs : List (List Tr)} (h : OwnR w M base e size v trs) (hb : base' ≤ base) : OwnR w M base' e size v trs := by
 obtain ⟨rows, ho, hl, hr, hc⟩ := h
 exact ⟨rows, ho.base_le hb, hl, hr, fun k h1 h2 j h3 h4 => (hc k h1 h2 j h3 h4).more fun b hb' _ => ⟨hb'.1.imp id (fun h => Nat.le_trans hb h), hb'.2⟩⟩
def CpRes (t : Tm) (w : World) (e : Ending) (w' : World) : Prop :=
 ∃ A c, e = .returned (.agg #[.int .i64 t.fn, .slice A t.args.length c]) ∧ RdP w' (fun b => w.heap.size ≤ b) (.sl 2 (encTms t.args)) (.slice A t.args.length c) ∧ Below w.heap.size w w'
def cpyT (t : Tm) : Tm := t
theorem cpyT_map (f : Int) (xs : List Tm) : cpyT (.mk f xs) = .mk f (xs.map cpyT) := by
 have : xs.map cpyT = xs := List.map_id xs
 rw [this]; rfl
def CpOwn (t : Tm) (w : World) (e : Ending) (w' : World) : Prop :=
 ∃ A c, e = .returned (.agg #[.int .i64 t.fn, .slice A t.args.length c]) ∧ OwnR w' (fun _ => False) w.heap.size 32 2 (.slice A t.args.length c) (encTms t.args) ∧ Below w.heap.size w w'
theorem CpOwn.res {t : Tm} {w : World} (hn : t.args.length ≤ 2000000) : ∀ e w', CpOwn t w e w' → CpRes t w e w' := by
 rintro e w' ⟨A, c, rfl, ho, hb⟩
 refine ⟨A, c, rfl, (ho.rd (by rw [encTms_len]; omega)).more (fun b hb _ => by rcases hb with hb | hb; exact hb.elim; exact hb), hb⟩
theorem copy02_own (D : Nat) : ∀ (f : Int) (xs : List Tm) (v2 : Value) (B : Nat) (w : World), sizeTs xs < D → sizeTs xs ≤ 2000000 → Rd w B (.sl 2 (encTms xs)) v2 → B ≤ w.heap.size →
 Calls Tryz.prog 27 #[.agg #[.int .i64 f, v2]] w (CpOwn (cpyT (.mk f xs)) w) := by
 induction D with
 | zero => intro f xs v2 B w h; omega
 | succ D ih =>
 intro f xs v2 B w hD hxs hr hB
 obtain ⟨A, c, rfl, hc, hn, hm⟩ := hr.tm_form
 have H3 := Lh hr
 have Hih := Lh ih
 have hlz := len_le_sizeTs xs
 rw [cpyT_map]
 clear hr ih
 go_enter Tryz.func27, Tryz.ntmps27
 go_upto_region 2 with fail
 obtain ⟨hx1, hx2, hx3, hB3, hz3⟩ := boxes3 w (.cells #[.int .i64 f, .slice A xs.length c] 32) (.cells #[.int .i64 0, .slice none 0 0] 32) (.cells #[.int .i64 f, .slice none 0 0] 32)
 have hx1 : Box2 w.heap.size 32 (.int .i64 f) (.slice A xs.length c) _ := hx1
 have hx2 : Box2 (w.heap.size + 1) 32 (.int .i64 0) (.slice none 0 0) _ := hx2
 have hx3 : Box2 (w.heap.size + 1 + 1) 32 (.int .i64 f) (.slice none 0 0) _ := hx3
 generalize ((w.alloc (.cells #[.int .i64 f, .slice A xs.length c] 32)).alloc (.cells #[.int .i64 0, .slice none 0 0] 32)).alloc (.cells #[.int .i64 f, .slice none 0 0] 32) = w3 at hx1 hx2 hx3 hB3 hz3 ⊢
 have Hz3 := Lh hz3
 have HX1 := Lh hx1
 have HX2 := Lh hx2
 have HX3 := Lh hx3
 have HB3 := Lh hB3
 obtain ⟨x10, x11, -⟩ := hx1.cells
 obtain ⟨x30, x31, x32⟩ := hx3.cells
 clear hx1 hx2 hx3 hB3 hz3
 obtain ⟨ob, hob⟩ : ∃ ob, w.heap.size + 1 + 1 = ob := ⟨_, rfl⟩
 obtain ⟨w4, hw4⟩ : ∃ w4, w4 = w3 := ⟨_, rfl⟩
 rw [hob] at HX3 x30 x31 x32 ⊢
 rw [← hw4] at HX1 HX2 HX3 HB3 Hz3 x10 x11 x30 x31 x32 ⊢
 clear hw4
 have H1 := HX1
 have H2 := HX2
 have H4 := HX3
 have HB4 := HB3
 have Hz4 := Lh (Nat.le_of_eq Hz3.out.symm)
 clear HX1 HX2 HX3 HB3 Hz3 x10 x11 x30 x31 x32
 go_upto_region 3 with fail
 have hz4 := Hz4.out
 go_loopw [4] (fun i wr => ∃ k : Nat, k ≤ xs.length ∧ i = .int .i64 k ∧ ∃ u, Box2 ob 32 (.int .i64 f) u wr ∧ OwnR wr (fun _ => False) w4.heap.size 32 2 u (encTms ((xs.map cpyT).take k)) ∧ Upd w4 wr (fun b => b = ob)) (fun i _ => xs.length - (intOf i).toNat)
 case atStart => exact ⟨0, Nat.zero_le _, rfl, _, H4.out, OwnR.nil _ _ _ _ _, Upd.refl _ _⟩
 obtain ⟨k, hk, rfl, u, hbu, hown, hur⟩ := hrel
 have hzr := hur.size
 have huo := hown.lt
 have hb1r := H1.out.upd hur (by omega)
 obtain ⟨y10, y11, -⟩ := hb1r.cells
 have hb2r := H2.out.upd hur (by omega)
 have hlowr : Below w.heap.size w wr := HB4.out.trans (hur.toLow (by omega) (fun b e => by omega))
 by_cases hlt : k < xs.length
 · obtain ⟨ab, off, f', ys, A2, c2, rfl, hxk, hab, k0, k1, hrd⟩ := (H3.out.low hlowr hB).tm_at hlt
   have hs1 := sizeTs_mem hlt
   skip
   rw [hxk] at hs1
   simp only [sizeT] at hs1
   have hsl : k < (xs.map cpyT).length := by rw [List.length_map]; exact hlt
   have hlk : (encTms ((xs.map cpyT).take k)).length = k := by rw [encTms_len, List.length_take, List.length_map]; omega
   obtain ⟨t, ht⟩ : ∃ t, cpyT (Tm.mk f' ys) = t := ⟨_, rfl⟩
   have hgt : (xs.map cpyT)[k] = t := by
    rw [← ht, ← hxk, List.getElem_map]
   have hsn : encTms ((xs.map cpyT).take (k + 1)) = encTms ((xs.map cpyT).take k) ++ [encTm t] := by
    rw [List.take_succ_eq_append_getElem hsl, encTms_map, encTms_map, List.map_append, hgt]
    rfl
   have hki : ¬ ((xs.length : Int) ≤ (k : Int)) := by omega
   have hcl := fun (w' : World) (hb : Below wr.heap.size wr w') => (Hih.out f' ys _ _ w' (by omega) (by omega) (hrd.low hb (by have := hlowr.size; omega)) (by have := hlowr.size; have := hb.size; omega)).mono (CpOwn.res (show ys.length ≤ 2000000 by have := len_le_sizeTs ys; omega))
   rw [ht] at hcl
   have Hcl := Lh hcl
   have Hsn := Lh hsn
   have Hlk := Lh hlk
   have Hbu := Lh hbu
   have Hown := Lh hown
   have Hur := Lh hur
   have Hb1r := Lh hb1r
   have K0 := Lh k0
   have K1 := Lh k1
   have hlz2 := hlowr.size
   clear hxk hrd hgt hsn hlk hcl ht hbu hown hur hb1r hb2r hlowr k0 k1
   go_upto_region 5 with fail
   clear y10 y11
   refine rg 12 (fun L w' => Upd wr w' (fun b => b = ob ∨ u.ownBlock = some b) ∧ (L.getD 11 false = false → Box2 ob 32 (.int .i64 f) u w')) ?_
   intro wd hwd hbd
   refine ⟨?_, fun hS => ?_⟩
   · exact ⟨Upd.low (hwd ▸ hbd) _, fun _ => Hbu.out.low (hwd ▸ hbd)⟩
   refine tk 0 (.pointer (some ⟨ob, 1, none⟩)) hS ?_ (fun hS => ?_) (hins := fun L w => by simp only [flag_ne (l := L) (i := 0) (k := 11) (by decide)])
   · intro w' L hn hw
     have n11 := hn.flag 11 (by kernel_rfl)
     simp [execOp, go_sem]
   refine tk 1 (u) hS ?_ (fun hS => ?_) (hins := fun L w => by simp only [flag_ne (l := L) (i := 1) (k := 11) (by decide)])
   · intro w' L hn hw
     have hh := (hw.2 (hn.flag 11 (by kernel_rfl))).cells
     simp [execOp, go_sem, hh.2.1]
   refine tk 2 (.pointer (some ⟨w.heap.size, 1, none⟩)) hS ?_ (fun hS => ?_) (hins := fun L w => by simp only [flag_ne (l := L) (i := 2) (k := 11) (by decide)])
   · intro w' L hn hw
     have n11 := hn.flag 11 (by kernel_rfl)
     simp [execOp, go_sem]
   refine tk 3 (.slice (some ⟨ab, off, none⟩) xs.length c) hS ?_ (fun hS => ?_) (hins := fun L w => by simp only [flag_ne (l := L) (i := 3) (k := 11) (by decide)])
   · intro w' L hn hw
     obtain ⟨q0, q1, -⟩ := (Hb1r.out.upd hw.1 (fun e => by rcases e with e | e; omega; have := (huo _ e).1; omega)).cells
     simp [execOp, go_sem, q1]
   refine ta 4 (.int .i64 (k : Nat)) hS (fun hS => ?_) (hins := fun L w => by simp only [flag_ne (l := L) (i := 4) (k := 11) (by decide)])
   refine tk 5 (.pointer (some ⟨ab, off + k * 2, none⟩)) hS ?_ (fun hS => ?_) (hins := fun L w => by simp only [flag_ne (l := L) (i := 5) (k := 11) (by decide)])
   · intro w' L hn hw
     have n11 := hn.flag 11 (by kernel_rfl)
     simp [execOp, go_sem, hlt, hki]
   refine tk 6 (.agg #[.int .i64 f', .slice A2 ys.length c2]) hS ?_ (fun hS => ?_) (hins := fun L w => by simp only [flag_ne (l := L) (i := 6) (k := 11) (by decide)])
   · intro w' L hn hw
     have hbl := hw.1.block ab (by omega) (fun e => by rcases e with e | e; omega; have := (huo _ e).1; omega)
     have q0 := (World.cell?_of_block (a := ⟨ab, off + k * 2, none⟩) hbl).trans K0.out
     have q1 := (World.cell?_of_block (a := ⟨ab, off + k * 2 + 1, none⟩) hbl).trans K1.out
     simp [execOp, go_sem, q0, q1]
   refine so 7 ?_
   have hc8 := Hcl.out wd (hwd ▸ hbd)
   refine wp_enter ?_ hc8 ?_
   · simp [execOp, resolve, invoke, go_sem]
   rintro e w6 ⟨At, nt, rfl, hrt, hb6⟩
   refine ⟨_, rfl, ?_⟩
   refine gS ?_ fun hS => ?_
   · exact ⟨hS.1.trans (Upd.low hb6 (fun _ => False)) (fun _ h => h.elim), fun _ => (hS.2 rfl).low hb6⟩
   refine so 8 ?_
   refine wp_value (v := .slice (some ⟨w6.heap.size, 0, none⟩) 1 1) (w' := w6.alloc (.cells #[.int .i64 t.fn, .slice At t.args.length nt] 32)) (by simp [execOp, go_sem]) ?_
   have hg8 := heap_alloc_new w6 (.cells #[.int .i64 t.fn, .slice At t.args.length nt] 32)
   have hb8 := below_box w6 (.cells #[.int .i64 t.fn, .slice At t.args.length nt] 32)
   generalize w6.alloc (.cells #[.int .i64 t.fn, .slice At t.args.length nt] 32) = w8 at hg8 hb8 ⊢
   refine gS ?_ fun hS => ?_
   · exact ⟨hS.1.trans (Upd.low hb8 (fun _ => False)) (fun _ h => h.elim), fun _ => (hS.2 rfl).low hb8⟩
   refine sl 9 ?_
   have hz6 := hb6.size
   have hz8 := hb8.size
   have hzd : wd.heap.size = wr.heap.size := by rw [hwd]
   have hown8 : OwnR w8 (fun _ => False) w4.heap.size 32 2 u (encTms ((xs.map cpyT).take k)) := ((Hown.out.low (hwd ▸ hbd : Below wr.heap.size wr wd)).low hb6).low hb8
   refine wpList_pushR w8 rfl (.tmp 16) (.tmp 23) _ rfl termT (M := fun _ => False) (base := w4.heap.size) (v := u) (trs := encTms ((xs.map cpyT).take k)) (by simp [go_sem]) hown8 (g := w6.heap.size) (by simp [go_sem]) hg8 rfl (by intro y hy; simp at hy; rcases hy with rfl | rfl <;> rfl) (by rw [Hlk.out]; omega) (by rw [Hlk.out]; unfold maxLen; omega) (by omega) (encTm t) (encTm_len t) ?_ ?_
   · intro j h h'
     have hj2 : j < 2 := h'
     rcases t with ⟨tf, ta⟩
     rcases (by omega : j = 0 ∨ j = 1) with rfl | rfl
     · exact .leaf _
     exact (hrt.low hb8).more fun b hb _ => ⟨.inr (by have : wd.heap.size ≤ b := hb; omega), fun e => by have := (huo _ e).2; have : wd.heap.size ≤ b := hb; omega⟩
   intro v' w9 hown' hup' hat'
   obtain ⟨Av, cv, hv', -, -⟩ := hown'.form
   have hbu9 : Box2 ob 32 (.int .i64 f) u w9 := ((hS.2 rfl)).upd hup' (fun e => by have := (huo _ e).1; omega)
   refine gL ?_ fun hS => ?_
   · exact ⟨hS.1.trans hup' (fun _ h => .inl (.inr h)), fun _ => hbu9⟩
   refine tk 10 (.pointer (some ⟨ob, 1, none⟩)) hS ?_ (fun hS => ?_) (hins := fun L w => by simp only [flag_ne (l := L) (i := 10) (k := 11) (by decide)])
   · intro w' L hn hw
     have n11 := hn.flag 11 (by kernel_rfl)
     simp [execOp, go_sem]
   refine so 11 ?_
   obtain ⟨q0, q1, q2⟩ := hbu9.cells
   have hpt := hbu9.put1 v'
   rw [hv'] at hpt ⊢
   refine wp_skip (w' := w9.setCell ⟨ob, 1, none⟩ (.slice Av (encTms ((xs.map cpyT).take k) ++ [encTm t]).length cv)) (by simp [execOp, go_sem, q1, q2]) ?_
   have hu10 : Upd w9 (w9.setCell ⟨ob, 1, none⟩ (.slice Av (encTms ((xs.map cpyT).take k) ++ [encTm t]).length cv)) (fun b => b = ob) := upd_set _
   rw [← hv'] at hpt hu10 ⊢
   generalize w9.setCell ⟨ob, 1, none⟩ v' = w10 at hpt hu10 ⊢
   refine gS ?_ fun hS => ?_
   · exact ⟨hS.1.trans hu10 (fun _ h => .inl (.inl h)), fun h => by cases h⟩
   refine dn ?_
   have hown10 := hown'.upd hu10 (fun b hb _ e => by
    rcases hb with hb | hb
    · exact hb
    omega)
   have hu2 : Upd w4 w10 (fun b => b = ob) := Hur.out.trans hS.1 (fun i e => by
    rcases e with e | e
    · exact .inl e
    exact .inr (huo i e).1)
   rw [← Hsn.out] at hown10
   have Hown10 := Lh hown10
   have Hu2 := Lh hu2
   have Hpt := Lh hpt
   clear hown10 hu2 hb6 hrt hpt hu10 hown' hup' hat' hv' hbu9 hg8 hb8 hS q0 q1 q2 hwd hbd
   go_wp2_with fail
   go_roundw
   case rel => exact ⟨k + 1, by omega, by go_num, v', Hpt.out, Hown10.out, Hu2.out⟩
   case measure => simp [intOf]; omega
 obtain rfl : k = xs.length := by omega
 have htk : (xs.map cpyT).take xs.length = xs.map cpyT := List.take_of_length_le (by rw [List.length_map]; omega)
 rw [htk] at hown
 obtain ⟨Au, cu, hu, -, -⟩ := hown.form
 rw [encTms_len, List.length_map] at hu
 have hread := (hown.rd (by rw [encTms_len, List.length_map]; omega))
 obtain ⟨c0, c1, -⟩ := hbu.cells
 obtain ⟨m0, m1, m2⟩ := hb2r.cells
 subst hu
 have hset := hb2r.set (.int .i64 f) (.slice Au xs.length cu)
 have hr9 := hread.upd hset.2 (fun b hb _ e => by rcases hb with hb | hb; exact hb; omega)
 have hb9 : Below w.heap.size w ((wr.setCell ⟨w.heap.size + 1, 0, none⟩ (.int .i64 f)).setCell ⟨w.heap.size + 1, 1, none⟩ (.slice Au xs.length cu)) := hlowr.trans (hset.2.toLow (by have := hlowr.size; omega) (fun b e => by omega))
 have Hset := Lh hset.1
 have Hr9 := Lh hr9
 have Hb9 := Lh hb9
 have Hw9 := Lh (OwnR.base_le (hown.upd hset.2 (fun b hb _ e => by rcases hb with hb | hb; exact hb.elim; omega)) (show w.heap.size ≤ w4.heap.size by omega))
 clear hset hr9 hread hown hbu hb2r hur htk hb9 hb1r hlowr
 go_wp2_with fail
 obtain ⟨j0, j1, -⟩ := Hset.out.cells
 refine bodyPost_ret (v := .agg #[.int .i64 f, .slice Au xs.length cu]) (by simp [results, Tryz.results27, go_sem, j0, j1]) rfl ⟨Au, cu, by simp [Tm.fn, Tm.args], ?_, Hb9.out⟩
 (simpa [Tm.args] using Hw9.out)
theorem copy02_any (D : Nat) (f : Int) (xs : List Tm) (v2 : Value) (B : Nat) (w : World) (h1 : sizeTs xs < D) (h2 : sizeTs xs ≤ 2000000) (hr : Rd w B (.sl 2 (encTms xs)) v2) (hB : B ≤ w.heap.size) :
 Calls Tryz.prog 27 #[.agg #[.int .i64 f, v2]] w (CpRes (cpyT (.mk f xs)) w) :=
 (copy02_own D f xs v2 B w h1 h2 hr hB).mono (CpOwn.res (show xs.length ≤ 2000000 by have := len_le_sizeTs xs; omega))
mutual
def occB (j : Nat) : Tm → Bool
 | .mk f xs => if f < 0 then decide (f = -1 - (j : Int)) else occBs j xs
def occBs (j : Nat) : List Tm → Bool
 | [] => false
 | x :: xs => occB j x || occBs j xs
end
def JnR (p : Int → Prop) (n : Nat) (l l' : List Int) : Prop := (l.Nodup → l'.Nodup) ∧ (∀ x, x ∈ l' ↔ x ∈ l ∨ p x) ∧ l'.length ≤ l.length + n
theorem JnR.refl (l : List Int) {n : Nat} : JnR (fun _ => False) n l l := ⟨id, fun x => by simp, by omega⟩
theorem JnR.trans {p q r : Int → Prop} {n m k : Nat} {l l' l2 : List Int} (h : JnR p n l l') (h2 : JnR q m l' l2) (hr : ∀ x, r x ↔ p x ∨ q x) (hk : n + m ≤ k) : JnR r k l l2 :=
 ⟨fun e => h2.1 (h.1 e), fun x => by rw [h2.2.1, h.2.1, hr, or_assoc], by have := h.2.2; have := h2.2.2; omega⟩
theorem JnR.congr {p q : Int → Prop} {n m : Nat} {l l' : List Int} (h : JnR p n l l') (hr : ∀ x, q x ↔ p x) (hk : n ≤ m) : JnR q m l l' :=
 ⟨h.1, fun x => by rw [h.2.1, hr], by have := h.2.2; omega⟩
def InsK (l : List Int) (v : Int) (k : Nat) (done : Bool) (out : List Int) : Prop := out.Perm (if done = true then v :: l.take k else l.take k)
theorem InsK.start (l : List Int) (v : Int) : InsK l v 0 false [] := by unfold InsK; simp
theorem InsK.next {l : List Int} {v : Int} {k : Nat} {done : Bool} {out : List Int} (h : InsK l v k done out) (hk : k < l.length) : InsK l v (k + 1) done (out ++ [l[k]]) := by
 unfold InsK at h ⊢
 rw [List.take_succ_eq_append_getElem hk]
 cases done with
 | true => exact List.Perm.append_right [l[k]] h
 | false => exact List.Perm.append_right [l[k]] h
theorem InsK.put {l : List Int} {v : Int} {k : Nat} {out : List Int} (h : InsK l v k false out) : InsK l v k true (out ++ [v]) := by
 unfold InsK at h ⊢
 exact (List.Perm.append_right [v] h).trans (List.perm_append_comm.trans (by simp))
theorem InsK.len {l : List Int} {v : Int} {k : Nat} {done : Bool} {out : List Int} (h : InsK l v k done out) (hk : k ≤ l.length) : out.length ≤ k + 1 := by
 have := List.Perm.length_eq h
 cases done with
 | true => rw [this]; simp; omega
 | false => rw [this]; simp; omega
theorem InsK.done {l : List Int} {v : Int} {out : List Int} (h : InsK l v l.length true out) (hv : v ∉ l) : JnR (fun x => x = v) 1 l out := by
 unfold InsK at h
 rw [if_pos rfl, List.take_length] at h
 refine ⟨fun hn => h.nodup_iff.2 (List.nodup_cons.2 ⟨hv, hn⟩), fun x => ?_, ?_⟩
 · rw [h.mem_iff, List.mem_cons, or_comm]
 rw [h.length_eq, List.length_cons]; exact Nat.le_refl _
theorem JnR.here {l : List Int} {v : Int} (hv : v ∈ l) : JnR (fun x => x = v) 1 l l :=
 ⟨id, fun x => ⟨.inl, fun h => h.elim id fun e => e ▸ hv⟩, by omega⟩
def occP (t : Tm) (x : Int) : Prop := ∃ j : Nat, x = (j : Int) ∧ occB j t = true
def occsP (ts : List Tm) (x : Int) : Prop := ∃ j : Nat, x = (j : Int) ∧ occBs j ts = true
theorem occsP_nil (x : Int) : occsP [] x ↔ False := ⟨fun ⟨j, _, h⟩ => (by rw [occBs] at h; cases h), False.elim⟩
theorem occBs_app : ∀ (xs ys : List Tm) (j : Nat), occBs j (xs ++ ys) = (occBs j xs || occBs j ys)
 | [], ys, j => by rw [occBs]; rfl
 | x :: xs, ys, j => by rw [List.cons_append, occBs, occBs, occBs_app xs ys j, Bool.or_assoc]
theorem occsP_take {xs : List Tm} {k : Nat} (hk : k < xs.length) (x : Int) : occsP (xs.take (k + 1)) x ↔ occsP (xs.take k) x ∨ occP xs[k] x := by
 unfold occsP occP
 rw [List.take_succ_eq_append_getElem hk]
 constructor
 · rintro ⟨j, hj, h⟩
   rw [occBs_app, Bool.or_eq_true, occBs, occBs, Bool.or_false] at h
   exact h.elim (fun h => .inl ⟨j, hj, h⟩) fun h => .inr ⟨j, hj, h⟩
 rintro (⟨j, hj, h⟩ | ⟨j, hj, h⟩)
 · exact ⟨j, hj, by rw [occBs_app, h]; rfl⟩
 exact ⟨j, hj, by rw [occBs_app, occBs, h]; simp⟩
theorem occP_var {f : Int} {xs : List Tm} (hf : f < 0) (x : Int) : occP (.mk f xs) x ↔ x = -1 - f := by
 unfold occP
 constructor
 · rintro ⟨j, hj, h⟩
   rw [occB, if_pos hf, decide_eq_true_eq] at h
   omega
 intro h
 exact ⟨(-1 - f).toNat, by omega, by rw [occB, if_pos hf, decide_eq_true_eq]; omega⟩
theorem occP_fun {f : Int} {xs : List Tm} (hf : ¬ f < 0) (x : Int) : occP (.mk f xs) x ↔ occsP xs x := by
 unfold occP occsP
 simp only [occB, if_neg hf]
def icells (l : List Int) : List (List Value) := (l.map fun n => Value.int .i64 n).map fun u => [u]
theorem icells_len (l : List Int) : (icells l).length = l.length := by simp [icells]
theorem icells_push (l : List Int) (n : Int) : icells (l ++ [n]) = icells l ++ [[.int .i64 n]] := by simp [icells]
theorem icells_at {l : List Int} {w : World} {base n c j : Nat} {A : Option Addr} (h : Own w base 3 1 (.slice A n c) (icells l)) (hj : j < l.length) :
 ∃ g, A = some ⟨g, 0, none⟩ ∧ base ≤ g ∧ g < w.heap.size ∧ w.cell? ⟨g, j, none⟩ = some (.int .i64 l[j]) ∧ w.frozen? ⟨g, j, none⟩ = false := by
 obtain ⟨g, hg, hb, hl, hc, hf⟩ := h.row_at (k := j) (by rw [icells_len]; exact hj) (by omega)
 have h1 := hc 0 (by omega)
 have h2 := hf 0 (by omega)
 simp only [Nat.mul_one, Nat.add_zero] at h1 h2
 exact ⟨g, hg, hb, hl, h1.trans (by simp [icells]), h2⟩
theorem icells_set {l : List Int} {w : World} {base g n c j : Nat} (h : Own w base 3 1 (.slice (some ⟨g, 0, none⟩) n c) (icells l)) (u : Int) :
 Own (w.setCell ⟨g, j, none⟩ (.int .i64 u)) base 3 1 (.slice (some ⟨g, 0, none⟩) n c) (icells (l.set j u)) := by
 have := h.set1 (j := j) (.int .i64 u)
 unfold icells
 rw [List.map_set]
 exact this
theorem icells_rd {l : List Int} {w : World} {base : Nat} {v : Value} (h : Own w base 3 1 v (icells l)) (hl : l.length ≤ 100000000) : Rd w w.heap.size (encIs l) v := by
 have := h.rd (by rw [icells_len]; omega)
 unfold encIs
 have e : ((icells l).map fun r => r.map Tr.leaf) = l.map fun n => [Tr.leaf (.int .i64 n)] := by simp [icells]
 rwa [e] at this
def JnRes (p : Int → Prop) (n : Nat) (l : List Int) (w : World) (e : Ending) (w' : World) : Prop := ∃ l' vo, e = .returned vo ∧ Below w.heap.size w w' ∧ JnR p n l l' ∧ Rd w' w'.heap.size (encIs l') vo
theorem insert_any (l : List Int) (v : Int) (vl : Value) (B : Nat) (w : World) (hr : Rd w B (encIs l) vl) (hl : l.length ≤ 10000000) (hB : B ≤ w.heap.size) :
 Calls Tryz.prog 49 #[vl, .int .i64 v] w (JnRes (fun x => x = v) 1 l w) := by
 obtain ⟨A, c, rfl, -, -, -⟩ := Rd.row_form (show Rd w B (.sl 1 (l.map fun n => [.leaf (.int .i64 n)])) vl from hr)
 have Hr := Lh hr
 clear hr
 go_enter Tryz.func49, Tryz.ntmps49
 go_wp2_with fail
 go_loopw [5, 6, 7] (fun u b i wr => ∃ (k : Nat) (d : Bool) (o : List Int), k ≤ l.length ∧ i = .int .i64 k ∧ b = .bool d ∧ Own wr w.heap.size 3 1 u (icells o) ∧ InsK l v k d o ∧ (∀ j (h : j < l.length), j < k → l[j] ≠ v) ∧ Below w.heap.size w wr) (fun _ _ i _ => l.length - (intOf i).toNat)
 case atStart => exact ⟨0, false, [], Nat.zero_le _, rfl, rfl, Own.nil _ _ _ _, InsK.start l v, fun j _ h => by omega, Below.refl _ _⟩
 obtain ⟨k, d, o, hk, rfl, rfl, hown, hins, hne, hbel⟩ := hrel
 have hzr := hbel.size
 have hol := hins.len hk
 have Hown := Lh hown
 have Hins := Lh hins
 have Hne := Lh hne
 have Hbel := Lh hbel
 clear hown hins hne hbel
 by_cases hlt : k < l.length
 · obtain ⟨ab, off, rfl, hab, c0⟩ := Rd.leaf_at (f := fun n => .int .i64 n) (show Rd wr B (.sl 1 (l.map fun n => [.leaf (.int .i64 n)])) _ from Hr.out.low Hbel.out hB) hlt
   have hnx := Hins.out.next hlt
   obtain ⟨x, hx⟩ : ∃ x, l[k] = x := ⟨_, rfl⟩
   rw [hx] at c0 hnx
   have c0 : wr.cell? ⟨ab, off + k, none⟩ = some (.int .i64 x) := c0
   have Hx := Lh hx
   have Hnx := Lh hnx
   have C0 := Lh c0
   clear hx hnx
   by_cases he : x = v
   · go_wp2_with fail
     go_ret
     refine ⟨l, _, rfl, Hbel.out, JnR.here (by rw [← he, ← Hx.out]; exact List.getElem_mem hlt), ?_⟩
     exact (Hr.out.low Hbel.out hB).more (by omega)
   by_cases hg : v < x
   · cases d with
     | false =>
       go_upto_region 11 with (skip
                               at_builtin
                               refine wpList_push _ rfl (.tmp 31) (.tmp 33) _ rfl nsT (base := w.heap.size) (v := u5) (rows := icells (o)) rfl (Hown.out.alloc _) (g := wr.heap.size) (cells := #[.int .i64 v]) rfl (heap_alloc_new wr _) rfl (by intro y hy; simp at hy; rcases hy with rfl; rfl) (by rw [icells_len]; (try simp only [List.length_append, List.length_singleton]); omega) (by rw [icells_len]; unfold maxLen; (try simp only [List.length_append, List.length_singleton]); omega) (by simp; omega) ?_
                               intro y5 w5 hown hup hat
                               have hown : Own w5 w.heap.size 3 1 y5 (icells ((o) ++ [v])) := by rw [icells_push]; exact hown
                               have Hown2 := Lh hown
                               have U5 := Lh (Below.trans ((below_box wr _).mono (by omega)) (hup.toLow (B := w.heap.size) (by simp; omega) (fun k e => (Hown.out.lt k e).1)))
                               have z5 := hup.size
                               rw [alloc_size] at z5
                               clear hown hup hat
                              )
       have c0 := (U5.out.cell (p := ⟨ab, off + k, none⟩) (show ab < w.heap.size by omega)).trans C0.out
       go_wp2_with (
        skip
        at_builtin
        refine wpList_push _ rfl (.tmp 35) (.tmp 40) _ rfl nsT (base := w.heap.size) (v := y5) (rows := icells (o ++ [v])) rfl (Hown2.out.alloc _) (g := w5.heap.size) (cells := #[.int .i64 x]) rfl (heap_alloc_new w5 _) rfl (by intro y hy; simp at hy; rcases hy with rfl; rfl) (by rw [icells_len]; (try simp only [List.length_append, List.length_singleton]); omega) (by rw [icells_len]; unfold maxLen; (try simp only [List.length_append, List.length_singleton]); omega) (by simp; omega) ?_
        intro y6 w6 hown hup hat
        have hown : Own w6 w.heap.size 3 1 y6 (icells ((o ++ [v]) ++ [x])) := by rw [icells_push]; exact hown
        have Hown22 := Lh hown
        have U6 := Lh (Below.trans ((below_box w5 _).mono (by omega)) (hup.toLow (B := w.heap.size) (by simp; omega) (fun k e => (Hown2.out.lt k e).1)))
        have z6 := hup.size
        rw [alloc_size] at z6
        clear hown hup hat
                   )
       go_roundw
       case rel =>
        refine ⟨k + 1, true, _, by omega, by go_num, rfl, Hown22.out, ?_, fun j hj hjk => ?_, Hbel.out.trans (U5.out.trans U6.out)⟩
        · have := (Hins.out.put).next hlt
          rwa [Hx.out] at this
        by_cases e : j = k
        · subst e; rw [Hx.out]; exact he
        exact Hne.out j hj (by omega)
       case measure => simp [intOf]; omega
     | true =>
       go_wp2_with (
        skip
        at_builtin
        refine wpList_push _ rfl (.tmp 35) (.tmp 40) _ rfl nsT (base := w.heap.size) (v := u5) (rows := icells (o)) rfl (Hown.out.alloc _) (g := wr.heap.size) (cells := #[.int .i64 x]) rfl (heap_alloc_new wr _) rfl (by intro y hy; simp at hy; rcases hy with rfl; rfl) (by rw [icells_len]; (try simp only [List.length_append, List.length_singleton]); omega) (by rw [icells_len]; unfold maxLen; (try simp only [List.length_append, List.length_singleton]); omega) (by simp; omega) ?_
        intro y6 w6 hown hup hat
        have hown : Own w6 w.heap.size 3 1 y6 (icells ((o) ++ [x])) := by rw [icells_push]; exact hown
        have Hown2 := Lh hown
        have U6 := Lh (Below.trans ((below_box wr _).mono (by omega)) (hup.toLow (B := w.heap.size) (by simp; omega) (fun k e => (Hown.out.lt k e).1)))
        have z6 := hup.size
        rw [alloc_size] at z6
        clear hown hup hat
                   )
       go_roundw
       case rel =>
        refine ⟨k + 1, true, _, by omega, by go_num, rfl, Hown2.out, Hnx.out, fun j hj hjk => ?_, Hbel.out.trans U6.out⟩
        by_cases e : j = k
        · subst e; rw [Hx.out]; exact he
        exact Hne.out j hj (by omega)
       case measure => simp [intOf]; omega
   go_wp2_with (
    skip
    at_builtin
    refine wpList_push _ rfl (.tmp 35) (.tmp 40) _ rfl nsT (base := w.heap.size) (v := u5) (rows := icells (o)) rfl (Hown.out.alloc _) (g := wr.heap.size) (cells := #[.int .i64 x]) rfl (heap_alloc_new wr _) rfl (by intro y hy; simp at hy; rcases hy with rfl; rfl) (by rw [icells_len]; (try simp only [List.length_append, List.length_singleton]); omega) (by rw [icells_len]; unfold maxLen; (try simp only [List.length_append, List.length_singleton]); omega) (by simp; omega) ?_
    intro y6 w6 hown hup hat
    have hown : Own w6 w.heap.size 3 1 y6 (icells ((o) ++ [x])) := by rw [icells_push]; exact hown
    have Hown2 := Lh hown
    have U6 := Lh (Below.trans ((below_box wr _).mono (by omega)) (hup.toLow (B := w.heap.size) (by simp; omega) (fun k e => (Hown.out.lt k e).1)))
    have z6 := hup.size
    rw [alloc_size] at z6
    clear hown hup hat
               )
   go_roundw
   case rel =>
    refine ⟨k + 1, d, _, by omega, by go_num, rfl, Hown2.out, Hnx.out, fun j hj hjk => ?_, Hbel.out.trans U6.out⟩
    by_cases e : j = k
    · subst e; rw [Hx.out]; exact he
    exact Hne.out j hj (by omega)
   case measure => simp [intOf]; omega
 obtain rfl : k = l.length := by omega
 have hv : v ∉ l := fun h => by
  obtain ⟨j, hj, e⟩ := List.mem_iff_getElem.1 h
  exact Hne.out j hj hj e
 cases d with
 | true =>
   have hdn := Hins.out.done hv
   have Hdn := Lh hdn
   clear hdn
   go_wp2_with fail
   go_ret
   exact ⟨o, _, rfl, Hbel.out, Hdn.out, icells_rd Hown.out (by omega)⟩
 | false =>
   have hdn := Hins.out.put.done hv
   have Hdn := Lh hdn
   clear hdn
   go_wp2_with (
    skip
    at_builtin
    refine wpList_push _ rfl (.tmp 44) (.tmp 46) _ rfl nsT (base := w.heap.size) (v := u5) (rows := icells (o)) rfl (Hown.out.alloc _) (g := wr.heap.size) (cells := #[.int .i64 v]) rfl (heap_alloc_new wr _) rfl (by intro y hy; simp at hy; rcases hy with rfl; rfl) (by rw [icells_len]; (try simp only [List.length_append, List.length_singleton]); omega) (by rw [icells_len]; unfold maxLen; (try simp only [List.length_append, List.length_singleton]); omega) (by simp; omega) ?_
    intro y6 w6 hown hup hat
    have hown : Own w6 w.heap.size 3 1 y6 (icells ((o) ++ [v])) := by rw [icells_push]; exact hown
    have Hown2 := Lh hown
    have U6 := Lh (Below.trans ((below_box wr _).mono (by omega)) (hup.toLow (B := w.heap.size) (by simp; omega) (fun k e => (Hown.out.lt k e).1)))
    have z6 := hup.size
    rw [alloc_size] at z6
    clear hown hup hat
               )
   go_ret
   exact ⟨_, _, rfl, Hbel.out.trans U6.out, Hdn.out, icells_rd Hown2.out (by simp; omega)⟩
theorem join02_any (D : Nat) : ∀ (f : Int) (xs : List Tm) (v2 vl : Value) (l : List Int) (B : Nat) (w : World), sizeTs xs < D → lowB 48 (.mk f xs) = true → l.length + sizeT (.mk f xs) ≤ 5000000 → Rd w B (.sl 2 (encTms xs)) v2 → Rd w B (encIs l) vl → B ≤ w.heap.size →
 Calls Tryz.prog 26 #[vl, .agg #[.int .i64 f, v2]] w (JnRes (occP (.mk f xs)) (sizeT (.mk f xs)) l w) := by
 induction D with
 | zero => intro f xs v2 vl l B w h; omega
 | succ D ih =>
 intro f xs v2 vl l B w hD hlow hz hr hrl hB
 obtain ⟨A, c2, rfl, hc, hn, hm⟩ := hr.tm_form
 have H3 := Lh hr
 have HL := Lh hrl
 have Hih := Lh ih
 rw [sizeT] at hz
 clear hr hrl ih
 by_cases hf : f < 0
 · rw [lowB, if_pos hf] at hlow
   simp only [Bool.and_eq_true, decide_eq_true_eq] at hlow
   obtain ⟨hf48, hx0⟩ := hlow
   have Hx0 := Lh hx0
   clear hx0
   have hoc := fun x => occP_var (xs := xs) hf x
   have Hoc := Lh hoc
   clear hoc
   have hw64 := wr64 (-1 - f) (by omega)
   have hw65 : wrap64 (-1 - f) = -1 - f := by unfold wrap64; omega
   go_enter Tryz.func26, Tryz.ntmps26
   go_upto_region 1 with fail
   have hb1 := below_box w (.cells #[.int .i64 f, .slice A xs.length c2] 32)
   have hx1 : Box2 w.heap.size 32 (.int .i64 f) (.slice A xs.length c2) (w.alloc (.cells #[.int .i64 f, .slice A xs.length c2] 32)) := heap_alloc_new w _
   have hz1 : (w.alloc (.cells #[.int .i64 f, .slice A xs.length c2] 32)).heap.size = w.heap.size + 1 := by simp
   generalize w.alloc (.cells #[.int .i64 f, .slice A xs.length c2] 32) = w1 at hx1 hb1 hz1 ⊢
   have HX1 := Lh hx1
   have HB1 := Lh hb1
   obtain ⟨x10, x11, -⟩ := hx1.cells
   clear hx1 hb1
   go_upto_region 3 with (go_at_call 49
                          refine (insert_any l (-1 - f) _ B w1 (HL.out.low HB1.out hB) (by omega) (by omega)).mono ?_
                          rintro e w2 ⟨l', vo, rfl, hb2, hjn, hrd2⟩
                          obtain ⟨x10, x11, -⟩ := (HX1.out.low hb2).cells
                          have Hb2 := Lh hb2
                          have Hjn := Lh hjn
                          have Hrd2 := Lh hrd2
                          clear hb2 hjn hrd2)
   go_wp2_with fail
   go_loopw [0, 5] (fun u i wr => u = vo ∧ i = .int .i64 0 ∧ wr = w2) (fun _ i _ => 0)
   case atStart => exact ⟨rfl, rfl, rfl⟩
   obtain ⟨rfl, rfl, rfl⟩ := hrel
   have hx0' : ¬ 0 < xs.length := by have := Hx0.out; omega
   go_wp2_with fail
   go_ret
   refine ⟨l', _, rfl, HB1.out.trans (Hb2.out.mono (by omega)), Hjn.out.congr (fun x => Hoc.out x) (by rw [sizeT]; omega), Hrd2.out⟩
 rw [lowB, if_neg hf, lowBs_all, List.all_eq_true] at hlow
 have hoc := fun x => occP_fun (xs := xs) hf x
 have Hoc := Lh hoc
 have Hlow := Lh hlow
 clear hoc hlow
 go_enter Tryz.func26, Tryz.ntmps26
 go_upto_region 1 with fail
 have hb1 := below_box w (.cells #[.int .i64 f, .slice A xs.length c2] 32)
 have hx1 : Box2 w.heap.size 32 (.int .i64 f) (.slice A xs.length c2) (w.alloc (.cells #[.int .i64 f, .slice A xs.length c2] 32)) := heap_alloc_new w _
 have hz1 : (w.alloc (.cells #[.int .i64 f, .slice A xs.length c2] 32)).heap.size = w.heap.size + 1 := by simp
 generalize w.alloc (.cells #[.int .i64 f, .slice A xs.length c2] 32) = w1 at hx1 hb1 hz1 ⊢
 have HX1 := Lh hx1
 have HB1 := Lh hb1
 obtain ⟨x10, x11, -⟩ := hx1.cells
 clear hx1 hb1
 go_wp2_with fail
 go_loopw [0, 5] (fun u i wr => ∃ (k : Nat) (l' : List Int), k ≤ xs.length ∧ i = .int .i64 k ∧ JnR (occsP (xs.take k)) (sizeTs (xs.take k)) l l' ∧ Rd wr wr.heap.size (encIs l') u ∧ Below w1.heap.size w1 wr) (fun _ i _ => xs.length - (intOf i).toNat)
 case atStart => exact ⟨0, l, Nat.zero_le _, rfl, (JnR.refl l (n := 0)).congr (fun x => by rw [List.take_zero]; exact occsP_nil x) (Nat.zero_le _), (HL.out.low HB1.out hB).more (by omega), Below.refl _ _⟩
 obtain ⟨k, l', hk2, rfl, hjn, hrd, hbel⟩ := hrel
 have hzr := hbel.size
 obtain ⟨x10, x11, -⟩ := (HX1.out.low hbel).cells
 have hbr : Below w.heap.size w wr := HB1.out.trans (hbel.mono (by omega))
 have hll := hjn.2.2
 have Hjn := Lh hjn
 have Hrd := Lh hrd
 have Hbel := Lh hbel
 have Hbr := Lh hbr
 clear hjn hrd hbel hbr
 by_cases hlt : k < xs.length
 · obtain ⟨ab, off, f', ys, A2, c3, rfl, hxk, hab, k0, k1, hrd2⟩ := (H3.out.low Hbr.out hB).tm_at hlt
   have hs1 := sizeTs_mem hlt
   have hs2 := sizeTs_take hlt
   have hs3 := sizeTs_take_le xs (k + 1)
   have hl1 := Hlow.out xs[k] (List.getElem_mem hlt)
   have hoc := fun x => occsP_take hlt x
   rw [hxk] at hs1 hs2 hl1 hoc
   have hs4 : sizeT (.mk f' ys) = 1 + sizeTs ys := by rw [sizeT]; omega
   have hcl := Hih.out f' ys (.slice A2 ys.length c3) u0 l' wr.heap.size wr (by omega) hl1 (by omega) (hrd2.more (by omega)) Hrd.out (Nat.le_refl _)
   have Hcl := Lh hcl
   have Hoc2 := Lh hoc
   have hkk : ¬ ((xs.length : Int) ≤ (k : Int)) := by omega
   clear hrd2 hxk hl1 hcl hoc
   go_wp2_with (
    go_at_call 26
    refine Hcl.out.mono ?_
    rintro e w6 ⟨l6, vo, rfl, hb6, hj6, hr6⟩
    have Hb6 := Lh hb6
    have Hj6 := Lh hj6
    have Hr6 := Lh hr6
    clear hb6 hj6 hr6)
   go_roundw
   case rel => exact ⟨k + 1, l6, by omega, by go_num, Hjn.out.trans Hj6.out (fun x => Hoc2.out x) (by omega), Hr6.out, Hbel.out.trans (Hb6.out.mono (by omega))⟩
   case measure => simp [intOf]; omega
 have e : xs.take k = xs := List.take_of_length_le (by omega)
 rw [e] at Hjn
 go_wp2_with fail
 go_ret
 exact ⟨l', _, rfl, Hbr.out, Hjn.out.congr (fun x => Hoc.out x) (by rw [sizeT]; omega), Hrd.out⟩
def CmpRes (t u : Tm) (w : World) (e : Ending) (w' : World) : Prop := ∃ i : Int, e = .returned (.int .i64 i) ∧ Below w.heap.size w w' ∧ (i = 0 ↔ t = u)
theorem CmpRes.ne {t u : Tm} {w w' : World} {i : Int} (h : Below w.heap.size w w') (hi : i ≠ 0) (hne : t ≠ u) : CmpRes t u w (.returned (.int .i64 i)) w' := ⟨i, rfl, h, fun e => absurd e hi, fun e => absurd e hne⟩
theorem cmp02_any (D : Nat) : ∀ (f g : Int) (xs ys : List Tm) (v1 v2 : Value) (B : Nat) (w : World), sizeTs xs < D → Rd w B (.sl 2 (encTms xs)) v1 → Rd w B (.sl 2 (encTms ys)) v2 → B ≤ w.heap.size →
 Calls Tryz.prog 24 #[.agg #[.int .i64 f, v1], .agg #[.int .i64 g, v2]] w (CmpRes (.mk f xs) (.mk g ys) w) := by
 induction D with
 | zero => intro f g xs ys v1 v2 B w h; omega
 | succ D ih =>
 intro f g xs ys v1 v2 B w hD hr1 hr2 hB
 obtain ⟨A1, c1, rfl, hc1, hn1, hm1⟩ := hr1.tm_form
 obtain ⟨A2, c2, rfl, hc2, hn2, hm2⟩ := hr2.tm_form
 have H3 := Lh hr1
 have H4 := Lh hr2
 have Hih := Lh ih
 clear hr1 hr2 ih
 by_cases hfg : f = g
 · subst hfg
   go_enter Tryz.func24, Tryz.ntmps24
   go_upto_region 1 with fail
   obtain ⟨hx1, hx2, hB2, hz2⟩ := boxes2 w (.cells #[.int .i64 f, .slice A1 xs.length c1] 32) (.cells #[.int .i64 f, .slice A2 ys.length c2] 32)
   have hx1 : Box2 w.heap.size 32 (.int .i64 f) (.slice A1 xs.length c1) _ := hx1
   have hx2 : Box2 (w.heap.size + 1) 32 (.int .i64 f) (.slice A2 ys.length c2) _ := hx2
   generalize (w.alloc (.cells #[.int .i64 f, .slice A1 xs.length c1] 32)).alloc (.cells #[.int .i64 f, .slice A2 ys.length c2] 32) = w1 at hx1 hx2 hB2 hz2 ⊢
   have HX1 := Lh hx1
   have HX2 := Lh hx2
   have HB2 := Lh hB2
   obtain ⟨x10, x11, -⟩ := hx1.cells
   obtain ⟨x20, x21, -⟩ := hx2.cells
   clear hx1 hx2 hB2
   go_wp2_with fail
   go_loopw [5] (fun i wr => ∃ k : Nat, k ≤ xs.length ∧ k ≤ ys.length ∧ i = .int .i64 k ∧ (∀ j (h : j < xs.length) (h' : j < ys.length), j < k → xs[j] = ys[j]) ∧ Below w1.heap.size w1 wr) (fun i _ => xs.length - (intOf i).toNat)
   case atStart => exact ⟨0, Nat.zero_le _, Nat.zero_le _, rfl, fun j _ _ h => by omega, Below.refl _ _⟩
   obtain ⟨k, hk1, hk2, rfl, hall, hbel⟩ := hrel
   have hzr := hbel.size
   have Hall := Lh hall
   have Hbel := Lh hbel
   have Hbr := Lh (HB2.out.trans (hbel.mono (by omega)))
   obtain ⟨x10, x11, -⟩ := (HX1.out.low hbel).cells
   obtain ⟨x20, x21, -⟩ := (HX2.out.low hbel).cells
   clear hall hbel
   by_cases hkx : k < xs.length
   · by_cases hky : k < ys.length
     · obtain ⟨ab, off, f1, us, B1, d1, rfl, hxk, hab, k0, k1, hrd1⟩ := (H3.out.low Hbr.out hB).tm_at hkx
       obtain ⟨bb, off2, f2, vs, B2, d2, rfl, hyk, hbb, k2, k3, hrd2⟩ := (H4.out.low Hbr.out hB).tm_at hky
       have hs1 := sizeTs_mem hkx
       rw [hxk] at hs1
       simp only [sizeT] at hs1
       have hcl := fun (w' : World) (hb : Below wr.heap.size wr w') => Hih.out f1 f2 us vs (.slice B1 us.length d1) (.slice B2 vs.length d2) B w' (by omega) (hrd1.low hb (by omega)) (hrd2.low hb (by omega)) (by have := hb.size; omega)
       have Hcl := Lh hcl
       have Hxk := Lh hxk
       have Hyk := Lh hyk
       have K0 := Lh k0
       have K1 := Lh k1
       have K2 := Lh k2
       have K3 := Lh k3
       have hkx2 : ¬ ((xs.length : Int) ≤ (k : Int)) := by omega
       have hky2 : ¬ ((ys.length : Int) ≤ (k : Int)) := by omega
       clear hcl hxk hyk k0 k1 k2 k3 hrd1 hrd2
       go_upto_region 12 with fail
       clear x10 x11 x20 x21
       refine rg 12 (fun _ w' => Below wr.heap.size wr w') ?_
       intro wd hwd hbd
       refine ⟨?_, fun hS => ?_⟩
       · exact hwd ▸ hbd
       refine ta 0 (.pointer (some ⟨w.heap.size, 1, none⟩)) hS fun hS => ?_
       refine tk 1 (.slice (some ⟨ab, off, none⟩) xs.length c1) hS ?_ fun hS => ?_
       · intro w' L hn hw
         have o1 := ((HX1.out.low Hbel.out).low hw).cells
         simp [execOp, go_sem, o1.2.1]
       refine ta 2 (.int .i64 (k : Nat)) hS fun hS => ?_
       refine tk 3 (.pointer (some ⟨ab, off + k * 2, none⟩)) hS ?_ fun hS => ?_
       · intros; simp [execOp, go_sem, hkx, hkx2]
       refine tk 4 (.agg #[.int .i64 f1, .slice B1 us.length d1]) hS ?_ fun hS => ?_
       · intro w' L hn hw
         have q0 := (hw.cell (p := ⟨ab, off + k * 2, none⟩) (show ab < wr.heap.size by omega)).trans K0.out
         have q1 := (hw.cell (p := ⟨ab, off + k * 2 + 1, none⟩) (show ab < wr.heap.size by omega)).trans K1.out
         simp [execOp, go_sem, q0, q1]
       refine ta 5 (.pointer (some ⟨w.heap.size + 1, 1, none⟩)) hS fun hS => ?_
       refine tk 6 (.slice (some ⟨bb, off2, none⟩) ys.length c2) hS ?_ fun hS => ?_
       · intro w' L hn hw
         have o2 := ((HX2.out.low Hbel.out).low hw).cells
         simp [execOp, go_sem, o2.2.1]
       refine ta 7 (.int .i64 (k : Nat)) hS fun hS => ?_
       refine tk 8 (.pointer (some ⟨bb, off2 + k * 2, none⟩)) hS ?_ fun hS => ?_
       · intros; simp [execOp, go_sem, hky, hky2]
       refine tk 9 (.agg #[.int .i64 f2, .slice B2 vs.length d2]) hS ?_ fun hS => ?_
       · intro w' L hn hw
         have q2 := (hw.cell (p := ⟨bb, off2 + k * 2, none⟩) (show bb < wr.heap.size by omega)).trans K2.out
         have q3 := (hw.cell (p := ⟨bb, off2 + k * 2 + 1, none⟩) (show bb < wr.heap.size by omega)).trans K3.out
         simp [execOp, go_sem, q2, q3]
       refine so 10 ?_
       have hbd4 : Below wr.heap.size wr wd := hwd ▸ hbd
       refine wp_enter ?_ (Hcl.out wd hbd4) ?_
       · simp [execOp, resolve, invoke, go_sem]
       rintro e w6 ⟨q, rfl, hb6, hq⟩
       refine ⟨_, rfl, ?_⟩
       refine gS ?_ fun hS => ?_
       · exact hS.trans (hb6.mono hS.size)
       refine ta 11 (.int .i64 q) hS fun hS => ?_
       refine dn ?_
       have HS := Lh hS
       have hbz := hS.size
       have Hq := Lh hq
       clear hS hwd hbd hb6 hbd4 hq
       by_cases hq0 : q = 0
       · go_wp2_with fail
         go_roundw
         case rel =>
          refine ⟨k + 1, by omega, by omega, by go_num, fun j hj hj2 hjk => ?_, Hbel.out.trans (HS.out.mono (by omega))⟩
          by_cases e : j = k
          · subst e; rw [Hxk.out, Hyk.out]; exact Hq.out.1 hq0
          exact Hall.out j hj hj2 (by omega)
         case measure => simp [intOf]; omega
       go_wp2_with fail
       go_ret
       refine CmpRes.ne (Hbr.out.trans (HS.out.mono Hbr.out.size)) hq0 fun e => ?_
       injection e with _ e
       exact hq0 (Hq.out.2 (by rw [← Hxk.out, ← Hyk.out]; simp only [e]))
     have hne : ¬ (xs.length : Int) < (ys.length : Int) := by omega
     have hgt : (ys.length : Int) < (xs.length : Int) := by omega
     go_wp2_with fail
     go_ret
     refine CmpRes.ne Hbr.out (by decide) fun e => ?_
     injection e with _ e
     rw [e] at hkx; exact hky hkx
   by_cases hlt : xs.length < ys.length
   · have hlt' : (xs.length : Int) < (ys.length : Int) := by omega
     go_wp2_with fail
     go_ret
     refine CmpRes.ne Hbr.out (by decide) fun e => ?_
     injection e with _ e
     rw [e] at hlt; omega
   have hle : xs.length = ys.length := by omega
   have Hle := Lh hle
   have h1 : ¬ (xs.length : Int) < (ys.length : Int) := by omega
   have h2 : ¬ (ys.length : Int) < (xs.length : Int) := by omega
   clear hle
   go_wp2_with fail
   go_ret
   refine ⟨0, rfl, Hbr.out, fun _ => ?_, fun _ => rfl⟩
   congr 1
   exact List.ext_getElem Hle.out fun i h1 h2 => Hall.out i h1 h2 (by omega)
 have hne : (Tm.mk f xs) ≠ .mk g ys := fun e => by injection e with e; exact hfg e
 by_cases hf : f < 0
 · by_cases hg : g < 0
   · by_cases hgt : g < f
     · go_enter Tryz.func24, Tryz.ntmps24
       go_upto_region 1 with fail
       obtain ⟨hx1, hx2, hB2, hz2⟩ := boxes2 w (.cells #[.int .i64 f, .slice A1 xs.length c1] 32) (.cells #[.int .i64 g, .slice A2 ys.length c2] 32)
       have hx1 : Box2 w.heap.size 32 (.int .i64 f) (.slice A1 xs.length c1) _ := hx1
       have hx2 : Box2 (w.heap.size + 1) 32 (.int .i64 g) (.slice A2 ys.length c2) _ := hx2
       generalize (w.alloc (.cells #[.int .i64 f, .slice A1 xs.length c1] 32)).alloc (.cells #[.int .i64 g, .slice A2 ys.length c2] 32) = w1 at hx1 hx2 hB2 hz2 ⊢
       have HX1 := Lh hx1
       have HX2 := Lh hx2
       have HB2 := Lh hB2
       obtain ⟨x10, x11, -⟩ := hx1.cells
       obtain ⟨x20, x21, -⟩ := hx2.cells
       clear hx1 hx2 hB2
       go_wp2_with fail
       go_ret
       exact CmpRes.ne HB2.out (by decide) hne
     go_enter Tryz.func24, Tryz.ntmps24
     go_upto_region 1 with fail
     obtain ⟨hx1, hx2, hB2, hz2⟩ := boxes2 w (.cells #[.int .i64 f, .slice A1 xs.length c1] 32) (.cells #[.int .i64 g, .slice A2 ys.length c2] 32)
     have hx1 : Box2 w.heap.size 32 (.int .i64 f) (.slice A1 xs.length c1) _ := hx1
     have hx2 : Box2 (w.heap.size + 1) 32 (.int .i64 g) (.slice A2 ys.length c2) _ := hx2
     generalize (w.alloc (.cells #[.int .i64 f, .slice A1 xs.length c1] 32)).alloc (.cells #[.int .i64 g, .slice A2 ys.length c2] 32) = w1 at hx1 hx2 hB2 hz2 ⊢
     have HX1 := Lh hx1
     have HX2 := Lh hx2
     have HB2 := Lh hB2
     obtain ⟨x10, x11, -⟩ := hx1.cells
     obtain ⟨x20, x21, -⟩ := hx2.cells
     clear hx1 hx2 hB2
     go_wp2_with fail
     go_ret
     exact CmpRes.ne HB2.out (by decide) hne
   have hlt : f < g := by omega
   go_enter Tryz.func24, Tryz.ntmps24
   go_upto_region 1 with fail
   obtain ⟨hx1, hx2, hB2, hz2⟩ := boxes2 w (.cells #[.int .i64 f, .slice A1 xs.length c1] 32) (.cells #[.int .i64 g, .slice A2 ys.length c2] 32)
   have hx1 : Box2 w.heap.size 32 (.int .i64 f) (.slice A1 xs.length c1) _ := hx1
   have hx2 : Box2 (w.heap.size + 1) 32 (.int .i64 g) (.slice A2 ys.length c2) _ := hx2
   generalize (w.alloc (.cells #[.int .i64 f, .slice A1 xs.length c1] 32)).alloc (.cells #[.int .i64 g, .slice A2 ys.length c2] 32) = w1 at hx1 hx2 hB2 hz2 ⊢
   have HX1 := Lh hx1
   have HX2 := Lh hx2
   have HB2 := Lh hB2
   obtain ⟨x10, x11, -⟩ := hx1.cells
   obtain ⟨x20, x21, -⟩ := hx2.cells
   clear hx1 hx2 hB2
   go_wp2_with fail
   go_ret
   exact CmpRes.ne HB2.out (by decide) hne
 by_cases hlt : f < g
 · go_enter Tryz.func24, Tryz.ntmps24
   go_upto_region 1 with fail
   obtain ⟨hx1, hx2, hB2, hz2⟩ := boxes2 w (.cells #[.int .i64 f, .slice A1 xs.length c1] 32) (.cells #[.int .i64 g, .slice A2 ys.length c2] 32)
   have hx1 : Box2 w.heap.size 32 (.int .i64 f) (.slice A1 xs.length c1) _ := hx1
   have hx2 : Box2 (w.heap.size + 1) 32 (.int .i64 g) (.slice A2 ys.length c2) _ := hx2
   generalize (w.alloc (.cells #[.int .i64 f, .slice A1 xs.length c1] 32)).alloc (.cells #[.int .i64 g, .slice A2 ys.length c2] 32) = w1 at hx1 hx2 hB2 hz2 ⊢
   have HX1 := Lh hx1
   have HX2 := Lh hx2
   have HB2 := Lh hB2
   obtain ⟨x10, x11, -⟩ := hx1.cells
   obtain ⟨x20, x21, -⟩ := hx2.cells
   clear hx1 hx2 hB2
   go_wp2_with fail
   go_ret
   exact CmpRes.ne HB2.out (by decide) hne
 go_enter Tryz.func24, Tryz.ntmps24
 go_upto_region 1 with fail
 obtain ⟨hx1, hx2, hB2, hz2⟩ := boxes2 w (.cells #[.int .i64 f, .slice A1 xs.length c1] 32) (.cells #[.int .i64 g, .slice A2 ys.length c2] 32)
 have hx1 : Box2 w.heap.size 32 (.int .i64 f) (.slice A1 xs.length c1) _ := hx1
 have hx2 : Box2 (w.heap.size + 1) 32 (.int .i64 g) (.slice A2 ys.length c2) _ := hx2
 generalize (w.alloc (.cells #[.int .i64 f, .slice A1 xs.length c1] 32)).alloc (.cells #[.int .i64 g, .slice A2 ys.length c2] 32) = w1 at hx1 hx2 hB2 hz2 ⊢
 have HX1 := Lh hx1
 have HX2 := Lh hx2
 have HB2 := Lh hB2
 obtain ⟨x10, x11, -⟩ := hx1.cells
 obtain ⟨x20, x21, -⟩ := hx2.cells
 clear hx1 hx2 hB2
 go_wp2_with fail
 go_ret
 exact CmpRes.ne HB2.out (by decide) hne
noncomputable def eqB (t u : Tm) : Bool := @decide (t = u) (Classical.propDecidable _)
theorem eqB_iff (t u : Tm) : eqB t u = true ↔ t = u := by unfold eqB; exact @decide_eq_true_iff _ (Classical.propDecidable _)
theorem same02_any (f g : Int) (xs ys : List Tm) (v1 v2 : Value) (B : Nat) (w : World) (hr1 : Rd w B (.sl 2 (encTms xs)) v1) (hr2 : Rd w B (.sl 2 (encTms ys)) v2) (hB : B ≤ w.heap.size) :
 Calls Tryz.prog 10 #[.agg #[.int .i64 f, v1], .agg #[.int .i64 g, v2]] w (BoolRes (eqB (.mk f xs) (.mk g ys)) w) := by
 obtain ⟨A1, c1, rfl, hc1, hn1, hm1⟩ := hr1.tm_form
 obtain ⟨A2, c2, rfl, hc2, hn2, hm2⟩ := hr2.tm_form
 have H3 := Lh hr1
 have H4 := Lh hr2
 clear hr1 hr2
 go_enter Tryz.func10, Tryz.ntmps10
 go_upto_region 1 with fail
 obtain ⟨hx1, hx2, hB2, hz2⟩ := boxes2 w (.cells #[.int .i64 f, .slice A1 xs.length c1] 32) (.cells #[.int .i64 g, .slice A2 ys.length c2] 32)
 have hx1 : Box2 w.heap.size 32 (.int .i64 f) (.slice A1 xs.length c1) _ := hx1
 have hx2 : Box2 (w.heap.size + 1) 32 (.int .i64 g) (.slice A2 ys.length c2) _ := hx2
 generalize (w.alloc (.cells #[.int .i64 f, .slice A1 xs.length c1] 32)).alloc (.cells #[.int .i64 g, .slice A2 ys.length c2] 32) = w1 at hx1 hx2 hB2 hz2 ⊢
 have HB2 := Lh hB2
 obtain ⟨x10, x11, -⟩ := hx1.cells
 obtain ⟨x20, x21, -⟩ := hx2.cells
 clear hx1 hx2 hB2
 go_wp2_with fail
 refine (cmp02_any (sizeTs xs + 1) f g xs ys _ _ B w1 (Nat.lt_succ_self _) (H3.out.low HB2.out hB) (H4.out.low HB2.out hB) (by omega)).mono ?_
 rintro e w2 ⟨i, rfl, hb2, hi⟩
 have Hb2 := Lh (HB2.out.trans (hb2.mono (by omega)))
 have Hi := Lh hi
 clear hb2 hi
 by_cases h0 : i = 0
 · have he : eqB (.mk f xs) (.mk g ys) = true := (eqB_iff _ _).2 (Hi.out.1 h0)
   have He := Lh he
   clear he
   go_wp2_with fail
   go_ret
   rw [He.out]
   exact ⟨by simp [h0], Hb2.out⟩
 have he : eqB (.mk f xs) (.mk g ys) = false := by
  rw [Bool.eq_false_iff]
  exact fun e => h0 (Hi.out.2 ((eqB_iff _ _).1 e))
 have He := Lh he
 clear he
 go_wp2_with fail
 go_ret
 rw [He.out]
 exact ⟨by simp [h0], Hb2.out⟩
def Grow (F : World → Nat → Prop) (w w' : World) : Prop := ∀ k, F w' k → F w k ∨ w.heap.size ≤ k
structure StF {σ : Type} (B : Nat) (F : World → Nat → Prop) (I : σ → World → Prop) : Prop where
 low : ∀ s w w', I s w → Below w.heap.size w w' → I s w' ∧ ∀ k, F w' k → F w k
 lt : ∀ s w k, I s w → F w k → k < w.heap.size
 ge : ∀ s w k, I s w → F w k → B ≤ k
structure Stp {σ : Type} (F : World → Nat → Prop) (I : σ → World → Prop) (s : σ) (w w' : World) : Prop where
 st : I s w'
 upd : Upd w w' (F w)
 grow : Grow F w w'
def StB {σ : Type} (F : World → Nat → Prop) (I : σ → World → Prop) (r : Bool × σ) (w : World) (e : Ending) (w' : World) : Prop := e = .returned (.bool r.1) ∧ Stp F I r.2 w w'
section
variable {σ : Type} {B : Nat} {F : World → Nat → Prop} {I : σ → World → Prop} {s s' : σ} {a b c : World}
theorem Stp.refl (h : I s a) : Stp F I s a a := ⟨h, Upd.refl _ _, fun _ h => .inl h⟩
theorem Stp.trans (h : Stp F I s a b) (k : Stp F I s' b c) : Stp F I s' a c :=
 ⟨k.st, h.upd.trans k.upd h.grow, fun i hi => by
  rcases k.grow i hi with h1 | h1
  · exact h.grow i h1
  exact .inr (Nat.le_trans h.upd.size h1)⟩
theorem StF.step (hF : StF B F I) (h : I s a) (hb : Below a.heap.size a b) : Stp F I s a b :=
 ⟨(hF.low s a b h hb).1, Upd.low hb _, fun k hk => .inl ((hF.low s a b h hb).2 k hk)⟩
theorem Stp.keep {k : Nat} (h : Stp F I s a b) (hk : k < a.heap.size) (hn : ¬ F a k) : b.heap[k]? = a.heap[k]? ∧ ¬ F b k :=
 ⟨h.upd.block k hk hn, fun hf => by
  rcases h.grow k hf with h1 | h1
  · exact hn h1
  omega⟩
theorem StF.new (hF : StF B F I) (h : I s a) : ¬ F a a.heap.size := fun hf => absurd (hF.lt s a _ h hf) (by omega)
theorem Stp.rd {t : Tr} {v : Value} (hF : StF B F I) (h0 : I s' a) (h : Stp F I s a b) (hr : Rd a B t v) (hB : B ≤ a.heap.size) : Rd b B t v := h.upd.keepRd hr hB (fun k hk => hF.ge s' a k h0 hk)
end
def TmV (w : World) (B : Nat) (t : Tm) (v : Value) : Prop := ∃ A c, v = .agg #[.int .i64 t.fn, .slice A t.args.length c] ∧ Rd w B (.sl 2 (encTms t.args)) (.slice A t.args.length c)
def eqGo {σ α : Type} (p : σ → α → α → Bool × σ) : σ → List α → List α → Bool × σ
 | s, [], [] => (true, s)
 | s, x :: xs, y :: ys => if (p s x y).1 = true then eqGo p (p s x y).2 xs ys else (false, (p s x y).2)
 | s, _, _ => (false, s)
def eqFun {σ α : Type} (p : σ → α → α → Bool × σ) (s : σ) (xs ys : List α) : Bool × σ := if xs.length = ys.length then eqGo p s xs ys else (false, s)
theorem eqGo_at {σ α : Type} {p : σ → α → α → Bool × σ} {s : σ} {xs ys : List α} {k : Nat} (h : k < xs.length) (h' : k < ys.length) :
 eqGo p s (xs.drop k) (ys.drop k) = if (p s xs[k] ys[k]).1 = true then eqGo p (p s xs[k] ys[k]).2 (xs.drop (k + 1)) (ys.drop (k + 1)) else (false, (p s xs[k] ys[k]).2) := by
 rw [List.drop_eq_getElem_cons h, List.drop_eq_getElem_cons h', eqGo]
theorem eqGo_end {σ α : Type} {p : σ → α → α → Bool × σ} {s : σ} {xs ys : List α} {k : Nat} (h : xs.length ≤ k) (h' : ys.length ≤ k) : eqGo p s (xs.drop k) (ys.drop k) = (true, s) := by
 rw [List.drop_eq_nil_of_le h, List.drop_eq_nil_of_le h', eqGo]
theorem sameEqual_any {σ : Type} (B : Nat) (F : World → Nat → Prop) (I : σ → World → Prop) (hF : StF B F I) (bx : Array Value) (p : σ → Tm → Tm → Bool × σ) (xs ys : List Tm) (vx vy : Value) (s : σ) (w : World)
 (hx : Rd w B (.sl 2 (encTms xs)) vx) (hy : Rd w B (.sl 2 (encTms ys)) vy) (hB : B ≤ w.heap.size) (hs : I s w)
 (hclo : ∀ k (hk : k < xs.length) (hk' : k < ys.length) s1 w1 e1 e2, w.heap.size ≤ w1.heap.size → I s1 w1 → TmV w1 B xs[k] e1 → TmV w1 B ys[k] e2 → Calls Tryz.prog 45 (#[e1, e2] ++ bx) w1 (StB F I (p s1 xs[k] ys[k]) w1)) :
 Calls Tryz.prog 75 #[vx, vy, .func (.func 45) #[] bx] w (StB F I (eqFun p s xs ys) w) := by
 obtain ⟨Ax, cx, rfl, hcx, hnx, hmx⟩ := hx.tm_form
 obtain ⟨Ay, cy, rfl, hcy, hny, hmy⟩ := hy.tm_form
 have HF := Lh hF
 have HX := Lh hx
 have HY := Lh hy
 have HS := Lh hs
 have Hclo := Lh hclo
 clear hF hx hy hs hclo
 by_cases hl : xs.length = ys.length
 · have he : eqFun p s xs ys = eqGo p s xs ys := by unfold eqFun; rw [if_pos hl]
   obtain ⟨r, hr⟩ : ∃ r, eqGo p s xs ys = r := ⟨_, rfl⟩
   rw [he, hr]
   have HR := Lh hr
   clear hr
   have q : (((xs.length : Nat) : Int) != ((ys.length : Nat) : Int)) = false := by rw [hl]; simp
   have Hl := Lh hl
   clear he hl
   go_enter Tryz.func75, Tryz.ntmps75
   go_wp2_with fail
   go_loopw [17] (fun i wr => ∃ (k : Nat) (s1 : σ), i = .int .i64 k ∧ k ≤ xs.length ∧ r = eqGo p s1 (xs.drop k) (ys.drop k) ∧ Stp F I s1 w wr) (fun i _ => xs.length - (intOf i).toNat)
   case atStart => exact ⟨0, s, rfl, Nat.zero_le _, HR.out.symm, Stp.refl HS.out⟩
   obtain ⟨k, s1, rfl, hk, hgo, hst⟩ := hrel
   have hzr := hst.upd.size
   have Hgo := Lh hgo
   have Hst := Lh hst
   clear hgo hst
   by_cases hlt : k < xs.length
   · have hlt2 : k < ys.length := by have := Hl.out; omega
     have hat := eqGo_at (p := p) (s := s1) hlt hlt2
     obtain ⟨ab1, off1, f1, zs1, A1, c1, rfl, hxk, hb1, k0, k1, hr1⟩ := (Hst.out.rd HF.out HS.out HX.out hB).tm_at hlt
     obtain ⟨ab2, off2, f2, zs2, A2, c2, rfl, hyk, hb2, l0, l1, hr2⟩ := (Hst.out.rd HF.out HS.out HY.out hB).tm_at hlt2
     have hcl : ∀ w1, Below wr.heap.size wr w1 → Calls Tryz.prog 45 (#[.agg #[.int .i64 f1, .slice A1 zs1.length c1], .agg #[.int .i64 f2, .slice A2 zs2.length c2]] ++ bx) w1 (StB F I (p s1 xs[k] ys[k]) w1) := by
      intro w1 hb
      refine Hclo.out k hlt hlt2 s1 w1 _ _ (Nat.le_trans hzr hb.size) (HF.out.low _ _ _ Hst.out.st hb).1 ?_ ?_
      · rw [hxk]; exact ⟨A1, c1, rfl, hr1.low hb (by omega)⟩
      rw [hyk]; exact ⟨A2, c2, rfl, hr2.low hb (by omega)⟩
     have Hcl := Lh hcl
     have Hat := Lh hat
     have hq1 : ab1 < wr.heap.size := by omega
     have hq2 : ab2 < wr.heap.size := by omega
     clear hcl hxk hyk hr1 hr2 hat
     obtain ⟨⟨b, s2⟩, hp⟩ : ∃ r, p s1 xs[k] ys[k] = r := ⟨_, rfl⟩
     rw [hp] at Hcl Hat
     clear hp
     cases b with
     | true =>
       go_wp2_with (
        go_at_call 45
        refine (Hcl.out _ ((below_box wr _).trans ((below_box _ _).mono (by simp)))).mono ?_
        rintro e w1 ⟨rfl, hst2⟩
        have Hst2 := Lh ((HF.out.step Hst.out.st ((below_box wr _).trans ((below_box _ _).mono (by simp)))).trans hst2)
        clear hst2)
       go_roundw
       case rel => exact ⟨k + 1, s2, by go_num, by omega, by rw [Hgo.out, Hat.out]; simp, Hst.out.trans Hst2.out⟩
       case measure => simp [intOf]; omega
     | false =>
       go_wp2_with (
        go_at_call 45
        refine (Hcl.out _ ((below_box wr _).trans ((below_box _ _).mono (by simp)))).mono ?_
        rintro e w1 ⟨rfl, hst2⟩
        have Hst2 := Lh ((HF.out.step Hst.out.st ((below_box wr _).trans ((below_box _ _).mono (by simp)))).trans hst2)
        clear hst2)
       go_ret
       obtain rfl : r = (false, s2) := by rw [Hgo.out, Hat.out, if_neg (by decide)]
       exact ⟨rfl, Hst.out.trans Hst2.out⟩
   have hend := eqGo_end (p := p) (s := s1) (xs := xs) (ys := ys) (k := k) (by omega) (by have := Hl.out; omega)
   have hres : r = (true, s1) := by rw [Hgo.out, hend]
   have Hres := Lh hres
   clear hend hres
   go_wp2_with fail
   go_ret
   rw [Hres.out]
   exact ⟨rfl, Hst.out⟩
 have he : eqFun p s xs ys = (false, s) := by unfold eqFun; rw [if_neg hl]
 rw [he]
 have q : (((xs.length : Nat) : Int) != ((ys.length : Nat) : Int)) = true := by rw [bne_iff_ne]; omega
 clear he hl
 go_enter Tryz.func75, Tryz.ntmps75
 go_wp2_with fail
 go_ret
 exact ⟨rfl, Stp.refl HS.out⟩
mutual
def sameT : Tm → Tm → Bool
 | .mk f xs, .mk g ys => decide (f = g) && decide (xs.length = ys.length) && sameTs xs ys
def sameTs : List Tm → List Tm → Bool
 | x :: xs, y :: ys => sameT x y && sameTs xs ys
 | _, _ => true
end
def samP (s : Unit) (x y : Tm) : Bool × Unit := (sameT x y, s)
theorem samP_go : ∀ {xs ys : List Tm}, xs.length = ys.length → (eqGo samP () xs ys).1 = sameTs xs ys
 | [], [], _ => by simp [eqGo, sameTs]
 | x :: xs, y :: ys, h => by
   have ih := samP_go (xs := xs) (ys := ys) (by simpa using h)
   rw [eqGo, sameTs]
   cases hx : sameT x y with
   | true => simp [samP, hx, ih]
   | false => simp [samP, hx]
 | [], _ :: _, h => by simp at h
 | _ :: _, [], h => by simp at h
theorem samP_fun (xs ys : List Tm) : (eqFun samP () xs ys).1 = (decide (xs.length = ys.length) && sameTs xs ys) := by
 unfold eqFun
 by_cases h : xs.length = ys.length
 · rw [if_pos h, samP_go h, decide_eq_true h]; rfl
 rw [if_neg h, decide_eq_false h]; rfl
def noF (_ : World) (_ : Nat) : Prop := False
def anyI (_ : Unit) (_ : World) : Prop := True
theorem noF_ok (B : Nat) : StF B noF anyI := ⟨fun _ _ _ _ _ => ⟨trivial, fun _ h => h⟩, fun _ _ _ _ h => h.elim, fun _ _ _ _ h => h.elim⟩
theorem upd_none {w w' : World} (h : Upd w w' (noF w)) : Below w.heap.size w w' := h.toLow (Nat.le_refl _) (fun _ h => h.elim)
theorem tm_eta (t : Tm) : Tm.mk t.fn t.args = t := by cases t; rfl
mutual
theorem sameT_iff : ∀ s t : Tm, sameT s t = true ↔ s = t
 | .mk f xs, .mk g ys => by
   rw [sameT, Bool.and_eq_true, Bool.and_eq_true, decide_eq_true_iff, decide_eq_true_iff]
   constructor
   · rintro ⟨⟨rfl, hl⟩, h⟩
     rw [(sameTs_iff xs ys hl).1 h]
   intro e
   injection e with e1 e2
   subst e1 e2
   exact ⟨⟨rfl, rfl⟩, (sameTs_iff xs xs rfl).2 rfl⟩
theorem sameTs_iff : ∀ xs ys : List Tm, xs.length = ys.length → (sameTs xs ys = true ↔ xs = ys)
 | [], [], _ => by rw [sameTs]; simp; intros; simp_all
 | x :: xs, y :: ys, h => by
   rw [sameTs, Bool.and_eq_true, sameT_iff x y, sameTs_iff xs ys (by simpa using h)]
   simp
 | [], y :: ys, h => by cases h
 | x :: xs, [], h => by cases h
end
theorem sameT_eqB (s t : Tm) : sameT s t = eqB s t := by rw [Bool.eq_iff_iff, sameT_iff, eqB_iff]
theorem sameP_any (d : Nat) : ∀ (f g : Int) (xs ys : List Tm) (vx vy : Value) (B : Nat) (w : World), sizeTs xs < d → Rd w B (.sl 2 (encTms xs)) vx → Rd w B (.sl 2 (encTms ys)) vy → B ≤ w.heap.size →
 Calls Tryz.prog 45 #[.agg #[.int .i64 f, vx], .agg #[.int .i64 g, vy]] w (BoolRes (sameT (.mk f xs) (.mk g ys)) w) := by
 induction d with
 | zero => intro f g xs ys vx vy B w h; omega
 | succ d ih =>
 intro f g xs ys vx vy B w hd hx hy hB
 obtain ⟨Ax, cx, rfl, hcx, hnx, hmx⟩ := hx.tm_form
 obtain ⟨Ay, cy, rfl, hcy, hny, hmy⟩ := hy.tm_form
 obtain ⟨r, hr⟩ : ∃ r, sameT (.mk f xs) (.mk g ys) = r := ⟨_, rfl⟩
 rw [hr]
 have hclo : ∀ w0 : World, B ≤ w0.heap.size → ∀ k (hk : k < xs.length) (hk' : k < ys.length) s1 w1 e1 e2, w0.heap.size ≤ w1.heap.size → anyI s1 w1 → TmV w1 B xs[k] e1 → TmV w1 B ys[k] e2 → Calls Tryz.prog 45 (#[e1, e2] ++ #[]) w1 (StB noF anyI (samP s1 xs[k] ys[k]) w1) := by
  rintro w0 hw0 k hk hk' s1 w1 e1 e2 hw1 _ ⟨A1, c1, rfl, hr1⟩ ⟨A2, c2, rfl, hr2⟩
  have h1 := sizeTs_mem hk
  have hfa := tm_eta xs[k]
  have hga := tm_eta ys[k]
  have hsz : sizeTs xs[k].args < d := by
   rw [← hfa] at h1
   simp only [sizeT] at h1
   omega
  have h2 := ih xs[k].fn ys[k].fn xs[k].args ys[k].args _ _ B w1 hsz hr1 hr2 (by omega)
  rw [hfa, hga] at h2
  refine h2.mono ?_
  rintro e w2 ⟨rfl, hb2⟩
  exact ⟨rfl, trivial, Upd.low hb2 _, fun _ h => h.elim⟩
 have Hclo := Lh hclo
 have HX := Lh hx
 have HY := Lh hy
 have HR := Lh hr
 clear hclo hx hy hr ih
 by_cases hfg : f = g
 · subst hfg
   obtain ⟨⟨b, u⟩, he⟩ : ∃ r, eqFun samP () xs ys = r := ⟨_, rfl⟩
   have hb : r = b := by
    have h2 : b = (decide (xs.length = ys.length) && sameTs xs ys) := by
     have := samP_fun xs ys
     rw [he] at this
     exact this
    rw [← HR.out, h2, sameT]
    simp
   subst hb
   have HE := Lh he
   clear he HR
   go_enter Tryz.func45, Tryz.ntmps45
   go_wp2_with (
    go_at_call 75
    refine (sameEqual_any B noF anyI (noF_ok B) #[] samP xs ys _ _ () _ (HX.out.low ((below_box w _).trans ((below_box _ _).mono (by simp))) (by omega)) (HY.out.low ((below_box w _).trans ((below_box _ _).mono (by simp))) (by omega)) (by simp; omega) trivial (Hclo.out _ (by simp; omega))).mono ?_
    rintro e w2 ⟨rfl, hst2⟩
    rw [HE.out])
   go_ret
   exact ⟨rfl, ((below_box w _).trans ((below_box _ _).mono (by simp))).trans ((upd_none hst2.upd).mono (by simp; omega))⟩
 have hb : r = false := by rw [← HR.out, sameT, decide_eq_false hfg]; rfl
 subst hb
 have q : (f == g) = false := by rw [beq_eq_false_iff_ne]; exact hfg
 clear hfg HR
 go_enter Tryz.func45, Tryz.ntmps45
 go_wp2_with fail
 go_ret
 exact ⟨rfl, (below_box w _).trans ((below_box _ _).mono (by simp))⟩
theorem same_tm (f g : Int) (xs ys : List Tm) (vx vy : Value) (B : Nat) (w : World) (hx : Rd w B (.sl 2 (encTms xs)) vx) (hy : Rd w B (.sl 2 (encTms ys)) vy) (hB : B ≤ w.heap.size) :
 Calls Tryz.prog 45 #[.agg #[.int .i64 f, vx], .agg #[.int .i64 g, vy]] w (BoolRes (eqB (.mk f xs) (.mk g ys)) w) := by
 rw [← sameT_eqB]
 exact sameP_any (sizeTs xs + 1) f g xs ys vx vy B w (Nat.lt_succ_self _) hx hy hB
end Go.Proofs.YtbkpkahhdlomiaaGreat
namespace Go.Proofs.YtbkpkahhdlomiaaGreat
inductive Rl where
 | no | lt | eq | gt
def Rl.int : Rl → Int
 | .no => 0
 | .lt => 1
 | .eq => 2
 | .gt => 3
def Rl.turn : Rl → Rl
 | .lt => .gt
 | .gt => .lt
 | .no => .no
 | .eq => .eq
theorem Rl.turn_turn (r : Rl) : r.turn.turn = r := by cases r <;> rfl
mutual
def vL : Tm → List Int
 | .mk f xs => (if f < 0 then [f] else []) ++ vLs xs
def vLs : List Tm → List Int
 | [] => []
 | x :: xs => vL x ++ vLs xs
end
def leV (s t : Tm) : Prop := ∀ v, (vL s).count v ≤ (vL t).count v
theorem leV.refl (s : Tm) : leV s s := fun _ => Nat.le_refl _
theorem leV.trans {s t u : Tm} (h : leV s t) (h' : leV t u) : leV s u := fun v => Nat.le_trans (h v) (h' v)
theorem vLs_app : ∀ xs ys : List Tm, vLs (xs ++ ys) = vLs xs ++ vLs ys
 | [], ys => by rw [vLs]; rfl
 | x :: xs, ys => by rw [List.cons_append, vLs, vLs, vLs_app xs ys, List.append_assoc]
theorem vLs_mem {x : Tm} : ∀ {xs : List Tm}, x ∈ xs → ∀ v, (vL x).count v ≤ (vLs xs).count v
 | y :: ys, h, v => by
   rw [vLs, List.count_append]
   rcases List.mem_cons.1 h with rfl | h
   · omega
   have := vLs_mem h v; omega
theorem leV_arg {f : Int} {x : Tm} {xs : List Tm} (h : x ∈ xs) : leV x (.mk f xs) := fun v => by
 rw [show vL (.mk f xs) = _ from by rw [vL], List.count_append]
 have := vLs_mem h v
 omega
theorem vLs_arg : ∀ {xs : List Tm} {v : Int}, v ∈ vLs xs → ∃ x ∈ xs, v ∈ vL x
 | [], v, h => by rw [vLs] at h; cases h
 | x :: xs, v, h => by
   rw [vLs, List.mem_append] at h
   rcases h with h | h
   · exact ⟨x, List.mem_cons_self, h⟩
   obtain ⟨y, hy, hv⟩ := vLs_arg h
   exact ⟨y, List.mem_cons_of_mem _ hy, hv⟩
theorem leV.mem {s t : Tm} (h : leV s t) {v : Int} (hv : v ∈ vL s) : v ∈ vL t :=
 List.count_pos_iff.1 (Nat.lt_of_lt_of_le (List.count_pos_iff.2 hv) (h v))
mutual
theorem vL_neg : ∀ (t : Tm) (v : Int), v ∈ vL t → v < 0
 | .mk f xs, v, h => by
   rw [vL, List.mem_append] at h
   rcases h with h | h
   · split at h
     · rw [List.mem_singleton] at h; subst h; assumption
     cases h
   exact vLs_neg xs v h
theorem vLs_neg : ∀ (xs : List Tm) (v : Int), v ∈ vLs xs → v < 0
 | [], v, h => by rw [vLs] at h; cases h
 | x :: xs, v, h => by
   rw [vLs, List.mem_append] at h
   rcases h with h | h
   · exact vL_neg x v h
   exact vLs_neg xs v h
end
theorem sum_le_count (h : Int → Nat) : ∀ (l1 l2 : List Int), (∀ v, l1.count v ≤ l2.count v) → (l1.map h).sum ≤ (l2.map h).sum
 | [], l2, _ => by simp
 | v :: l1, l2, hc => by
   have hm : v ∈ l2 := by
    refine List.count_pos_iff.1 (Nat.lt_of_lt_of_le ?_ (hc v))
    rw [List.count_cons_self]; omega
   have hp := List.perm_cons_erase hm
   have h1 : (l2.map h).sum = h v + ((l2.erase v).map h).sum := by
    rw [(hp.map h).sum_nat, List.map_cons, List.sum_cons]
   rw [h1, List.map_cons, List.sum_cons]
   have := sum_le_count h l1 (l2.erase v) (fun u => by
    have := hc u
    rw [hp.count_eq u] at this
    rw [List.count_cons, List.count_cons] at this
    omega)
   omega
mutual
def wfT (ar : Int → Option Nat) : Tm → Prop
 | .mk f xs => (if f < 0 then xs = [] else ar f = some xs.length) ∧ wfTs ar xs
def wfTs (ar : Int → Option Nat) : List Tm → Prop
 | [] => True
 | x :: xs => wfT ar x ∧ wfTs ar xs
end
theorem wfTs_mem {ar : Int → Option Nat} : ∀ {xs : List Tm} {x : Tm}, wfTs ar xs → x ∈ xs → wfT ar x
 | y :: ys, x, h, hx => by
   rw [wfTs] at h
   rcases List.mem_cons.1 hx with rfl | hx
   · exact h.1
   exact wfTs_mem h.2 hx
theorem wfTs_of {ar : Int → Option Nat} : ∀ {xs : List Tm}, (∀ x ∈ xs, wfT ar x) → wfTs ar xs
 | [], _ => by rw [wfTs]; trivial
 | y :: ys, h => by rw [wfTs]; exact ⟨h y List.mem_cons_self, wfTs_of fun x hx => h x (List.mem_cons_of_mem _ hx)⟩
theorem wfT.args {ar : Int → Option Nat} {f : Int} {xs : List Tm} (h : wfT ar (.mk f xs)) {x : Tm} (hx : x ∈ xs) : wfT ar x := by rw [wfT] at h; exact wfTs_mem h.2 hx
theorem wfT.var {ar : Int → Option Nat} {f : Int} {xs : List Tm} (h : wfT ar (.mk f xs)) (hf : f < 0) : xs = [] := by rw [wfT, if_pos hf] at h; exact h.1
theorem wfT.ar {ar : Int → Option Nat} {f : Int} {xs : List Tm} (h : wfT ar (.mk f xs)) (hf : 0 ≤ f) : ar f = some xs.length := by rw [wfT, if_neg (by omega)] at h; exact h.1
theorem wfT.len {ar : Int → Option Nat} {f : Int} {xs ys : List Tm} (h : wfT ar (.mk f xs)) (h' : wfT ar (.mk f ys)) (hf : 0 ≤ f) : xs.length = ys.length := by
 have h1 := h.ar hf
 rw [h'.ar hf] at h1
 injection h1 with h1
 exact h1.symm
theorem sizeT_arg {f : Int} {xs : List Tm} {x : Tm} (h : x ∈ xs) : sizeT x < sizeT (.mk f xs) := by
 rw [show sizeT (.mk f xs) = sizeTs xs + 1 from by rw [sizeT]]
 induction xs with
 | nil => cases h
 | cons y ys ih =>
   rw [sizeTs]
   rcases List.mem_cons.1 h with rfl | h
   · omega
   have := ih h; omega
theorem ne_arg {f : Int} {xs : List Tm} {x : Tm} (h : x ∈ xs) : Tm.mk f xs ≠ x := fun e => by
 have := sizeT_arg (f := f) h
 rw [e] at this
 omega
mutual
def putU (σ : Int → Option Tm) : Tm → Tm
 | .mk f xs => match (if f < 0 then σ f else none) with | some t => t | none => .mk f (putUs σ xs)
def putUs (σ : Int → Option Tm) : List Tm → List Tm
 | [] => []
 | x :: xs => putU σ x :: putUs σ xs
end
theorem putUs_map (σ : Int → Option Tm) : ∀ xs, putUs σ xs = xs.map (putU σ)
 | [] => by rw [putUs]; rfl
 | x :: xs => by rw [putUs, putUs_map σ xs]; rfl
theorem putU_sym (σ : Int → Option Tm) {f : Int} (hf : 0 ≤ f) (xs : List Tm) : putU σ (.mk f xs) = .mk f (xs.map (putU σ)) := by
 rw [putU, if_neg (by omega), putUs_map]
def atV (σ : Int → Option Tm) (f : Int) : Tm := match σ f with | some t => t | none => .mk f []
theorem putU_var (σ : Int → Option Tm) {f : Int} (hf : f < 0) : putU σ (.mk f []) = atV σ f := by
 rw [putU, if_pos hf]
 unfold atV
 cases σ f with
 | none => dsimp only; rw [putUs]
 | some t => rfl
theorem atV_wf {ar : Int → Option Nat} {σ : Int → Option Tm} (hσ : ∀ f t, σ f = some t → wfT ar t) {f : Int} (hf : f < 0) : wfT ar (atV σ f) := by
 unfold atV
 cases h : σ f with
 | none => dsimp only; rw [wfT, if_pos hf, wfTs]; exact ⟨rfl, trivial⟩
 | some t => exact hσ f t h
theorem putU_wf {ar : Int → Option Nat} {σ : Int → Option Tm} (hσ : ∀ f t, σ f = some t → wfT ar t) : ∀ (n : Nat) (t : Tm), sizeT t < n → wfT ar t → wfT ar (putU σ t)
 | 0, t, h, _ => by omega
 | n + 1, .mk f xs, hn, h => by
   by_cases hf : f < 0
   · obtain rfl := h.var hf
     rw [putU_var σ hf]
     exact atV_wf hσ hf
   rw [putU_sym σ (by omega), wfT, if_neg hf]
   refine ⟨by rw [List.length_map]; exact h.ar (by omega), wfTs_of fun y hy => ?_⟩
   obtain ⟨x, hx, rfl⟩ := List.mem_map.1 hy
   exact putU_wf hσ n x (by have := sizeT_arg (f := f) hx; omega) (h.args hx)
theorem vL_putU {ar : Int → Option Nat} (σ : Int → Option Tm) : ∀ (n : Nat) (t : Tm), sizeT t < n → wfT ar t → vL (putU σ t) = (vL t).flatMap fun v => vL (atV σ v)
 | 0, t, h, _ => by omega
 | n + 1, .mk f xs, hn, h => by
   by_cases hf : f < 0
   · obtain rfl := h.var hf
     rw [putU_var σ hf, show vL (.mk f []) = [f] by rw [vL, if_pos hf, vLs]; rfl]
     simp
   rw [putU_sym σ (by omega), vL, if_neg hf, vL, if_neg hf, List.nil_append, List.nil_append]
   have ih : ∀ x ∈ xs, vL (putU σ x) = (vL x).flatMap fun v => vL (atV σ v) := fun x hx => vL_putU σ n x (by have := sizeT_arg (f := f) hx; omega) (h.args hx)
   clear h hn hf
   induction xs with
   | nil => rw [List.map_nil, vLs]; rfl
   | cons x xs ih' =>
     rw [List.map_cons, vLs, vLs, List.flatMap_append, ih x List.mem_cons_self, ih' fun y hy => ih y (List.mem_cons_of_mem _ hy)]
theorem count_flatMap (g : Int → List Int) (u : Int) : ∀ l : List Int, (l.flatMap g).count u = (l.map fun v => (g v).count u).sum
 | [] => by simp
 | x :: l => by rw [List.flatMap_cons, List.count_append, count_flatMap g u l, List.map_cons, List.sum_cons]
theorem leV_putU {ar : Int → Option Nat} (σ : Int → Option Tm) {s t : Tm} (hs : wfT ar s) (ht : wfT ar t) (h : leV s t) : leV (putU σ s) (putU σ t) := fun u => by
 rw [vL_putU σ _ s (Nat.lt_succ_self _) hs, vL_putU σ _ t (Nat.lt_succ_self _) ht, count_flatMap, count_flatMap]
 exact sum_le_count _ _ _ h
end Go.Proofs.YtbkpkahhdlomiaaGreat
