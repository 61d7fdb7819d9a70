/-
  A slice of the call's own, row by row ('Own'); what append does to it. It imports nothing of the program.
-/
import Derived.Test.YtgmoneimfnackaaRd
namespace Go.Proofs.Ytgmoneimfnackaa
open Go.RowKit

/-- The slice value v is the call's own, from block 'base' on, and holds these rows of cells. -/
def Own (w : World) (base : Nat) (e : TypeId) (size : Nat) (v : Value) (rows : List (List Value)) : Prop :=
  w.ownsRow base e size v rows.length rows.flatten ∧ ∀ r ∈ rows, r.length = size

/-- The slice type t of elements e, each of so many cells and bytes. -/
structure SliceTy (P : Program) (t e : TypeId) (size bytes : Nat) : Prop where
  ht : P.underlying t = some (.slice e)
  hi : ∃ i z, P.info? e = some i ∧ i.zero = some z ∧ i.size = size ∧ i.bytes = bytes ∧ z.cells.size = size
  hs : 0 < size

theorem sliceTy {P : Program} {t e : TypeId} {z : Value} {size bytes : Nat} (ht : P.underlying t = some (.slice e)) (h : (P.info? e).map (fun i => (i.zero, i.size, i.bytes)) = some (some z, size, bytes))
    (hz : z.cells.size = size) (hs : 0 < size) : SliceTy P t e size bytes := by
  obtain ⟨i, h1, h2, h3, h4⟩ := info_parts h
  exact ⟨ht, ⟨i, z, h1, h2, h3, h4, hz⟩, hs⟩

section
variable {w w' : World} {base size : Nat} {e : TypeId} {v : Value} {rows : List (List Value)}

theorem Own.nil (w : World) (base : Nat) (e : TypeId) (size : Nat) : Own w base e size (.slice none 0 0) [] := ⟨World.ownsRow_nil w base e size, by simp⟩

theorem Own.lt (h : Own w base e size v rows) : ∀ g, v.ownBlock = some g → base ≤ g ∧ g < w.heap.size := h.1.lt

theorem Own.upd {F : Nat → Prop} (h : Own w base e size v rows) (hu : Upd w w' F) (hF : ∀ g, v.ownBlock = some g → ¬ F g) : Own w' base e size v rows := by
  refine ⟨?_, h.2⟩
  obtain ⟨hl, hr⟩ := h.1
  refine ⟨hl, ?_⟩
  rcases hr with hr | ⟨g, cap, cur, hv, hb, hg, hc⟩
  · exact .inl hr
  · refine .inr ⟨g, cap, cur, hv, hb, ?_, hc⟩
    rw [hu.block g (Array.getElem?_eq_some_iff.1 hg).1 (hF g (by rw [hv]; rfl))]
    exact hg
theorem Own.low (h : Own w base e size v rows) (hb : Below w.heap.size w w') : Own w' base e size v rows := h.upd (Upd.low hb (fun _ => False)) (by simp)
theorem Own.alloc (h : Own w base e size v rows) (o : Obj) : Own (w.alloc o) base e size v rows := h.low (below_box w o)
theorem Own.drewN (h : Own w base e size v rows) (n : Nat) : Own (w.drewN n) base e size v rows := h
theorem Own.base_le {base' : Nat} (h : Own w base e size v rows) (hb : base' ≤ base) : Own w base' e size v rows := by
  refine ⟨⟨h.1.1, ?_⟩, h.2⟩
  rcases h.1.2 with hr | ⟨g, cap, cur, hv, hb', hg, hc⟩
  · exact .inl hr
  · exact .inr ⟨g, cap, cur, hv, Nat.le_trans hb hb', hg, hc⟩

theorem Own.ne_cells {b : Nat} {cs : Array Value} {t : TypeId} {fr : Nat × Nat} (h : Own w base e size v rows) (hb : w.heap[b]? = some (.cells cs t fr)) (hne : t ≠ e) : v.ownBlock ≠ some b := by
  intro hv
  rcases h.1.2 with ⟨rfl, _⟩ | ⟨g, cap, cur, rfl, _, hg, _⟩
  · cases hv
  · injection hv with hv
    simp only at hv
    subst hv
    rw [hg] at hb
    injection hb with hb
    injection hb with _ ht
    exact hne ht.symm
theorem Own.ne_map {b : Nat} {es : Array MapEntry} {c : Nat} (h : Own w base e size v rows) (hb : w.heap[b]? = some (.map es c)) : v.ownBlock ≠ some b := by
  intro hv
  rcases h.1.2 with ⟨rfl, _⟩ | ⟨g, cap, cur, rfl, _, hg, _⟩
  · cases hv
  · injection hv with hv
    simp only at hv
    subst hv
    rw [hg] at hb
    cases hb
theorem Own.ne_own {base' size' : Nat} {e' : TypeId} {v' : Value} {rows' : List (List Value)} (h : Own w base e size v rows) (h' : Own w base' e' size' v' rows') (hne : e ≠ e') (g : Nat) (hg : v.ownBlock = some g) : v'.ownBlock ≠ some g := by
  rcases h.1.2 with ⟨rfl, _⟩ | ⟨g', cap, cur, rfl, _, hh, _⟩
  · cases hg
  · injection hg with hg
    simp only at hg
    subst hg
    exact h'.ne_cells hh hne
theorem Own.form (h : Own w base e size v rows) : ∃ A c, v = .slice A rows.length c ∧ rows.length ≤ c ∧ c ≤ maxLen := by
  rcases h.1.2 with ⟨rfl, hn⟩ | ⟨g, cap, cur, hv, hb, hg, hnc, hcm, _⟩
  · rw [hn]; exact ⟨none, 0, rfl, Nat.le_refl _, Nat.zero_le _⟩
  · exact ⟨_, cap, hv, hnc, hcm⟩

theorem flatten_at {α : Type} (rows : List (List α)) (size : Nat) (hr : ∀ r ∈ rows, r.length = size) (k j : Nat) (hk : k < rows.length) (hj : j < size) :
    rows.flatten[k * size + j]? = some (rows[k][j]'(by rw [hr _ (List.getElem_mem hk)]; exact hj)) := by
  induction rows generalizing k with
  | nil => simp at hk
  | cons r rows ih =>
    have h0 : r.length = size := hr r (by simp)
    cases k with
    | zero =>
      simp only [List.flatten_cons, Nat.zero_mul, Nat.zero_add, List.getElem_cons_zero]
      rw [List.getElem?_append_left (by omega)]
      exact List.getElem?_eq_getElem (by omega)
    | succ k =>
      simp only [List.flatten_cons, List.getElem_cons_succ]
      rw [List.getElem?_append_right (by rw [h0, Nat.succ_mul]; omega)]
      rw [← ih (fun r hr' => hr r (by simp [hr'])) k (by simpa using hk)]
      congr 1
      rw [h0, Nat.succ_mul]; omega

/-- Its k-th row's cells. -/
theorem Own.cell {k j : Nat} (h : Own w base e size v rows) (hk : k < rows.length) (hj : j < size) :
    ∃ g c, v = .slice (some ⟨g, 0, none⟩) rows.length c ∧ base ≤ g ∧ g < w.heap.size ∧ w.cell? ⟨g, k * size + j, none⟩ = some (rows[k][j]'(by rw [h.2 _ (List.getElem_mem hk)]; exact hj)) ∧ w.frozen? ⟨g, k * size + j, none⟩ = false := by
  rcases h.1.2 with ⟨_, hn⟩ | ⟨g, cap, cur, hv, hb, hg, hnc, hcm, hcs, htake⟩
  · omega
  · refine ⟨g, cap, hv, hb, (Array.getElem?_eq_some_iff.1 hg).1, ?_, frozen_of_row w g _ cur e hg⟩
    rw [cell_of_row w g _ cur e (0, 0) hg, ← Array.getElem?_toList, ← flatten_at rows size h.2 k j hk hj, ← htake, List.getElem?_take, if_pos]
    have : (k + 1) * size ≤ rows.length * size := Nat.mul_le_mul_right _ hk
    rw [Nat.succ_mul] at this
    omega

theorem Own.row_at {n c k : Nat} {A : Option Addr} (h : Own w base e size (.slice A n c) rows) (hk : k < rows.length) (hs : 0 < size) :
    ∃ g, A = some ⟨g, 0, none⟩ ∧ base ≤ g ∧ g < w.heap.size ∧ (∀ j (hj : j < size), w.cell? ⟨g, k * size + j, none⟩ = some (rows[k][j]'(by rw [h.2 _ (List.getElem_mem hk)]; exact hj))) ∧ (∀ j, j < size → w.frozen? ⟨g, k * size + j, none⟩ = false) := by
  obtain ⟨g, c', hv, hb, hg, _⟩ := h.cell hk hs
  injection hv with hA _ _
  refine ⟨g, hA, hb, hg, fun j hj => ?_, fun j hj => ?_⟩
  all_goals
    obtain ⟨g1, c1, hv1, _, _, hc1, hf1⟩ := h.cell hk hj
    injection hv1 with hA1 _ _
    rw [hA] at hA1
    injection hA1 with hA1
    injection hA1 with hA1 _ _
    subst hA1
    first | exact hc1 | exact hf1

theorem Own.rd (h : Own w base e size v rows) (hn : rows.length ≤ 140737488351232) : Rd w w.heap.size (.sl size (rows.map fun r => r.map .leaf)) v := by
  rcases h.1.2 with ⟨rfl, hn⟩ | ⟨g, cap, cur, hv, hb, hg, hnc, hcm, hcs, htake⟩
  · have : rows = [] := List.eq_nil_of_length_eq_zero hn
    subst this
    exact .none_ _
  · have hlt : g < w.heap.size := (Array.getElem?_eq_some_iff.1 hg).1
    have := Rd.row (w := w) (B := w.heap.size) size g 0 cap (rows.map fun r => r.map .leaf) (fun k j => ((rows[k]?.getD [])[j]?).getD undef)
      (by intro r hr; obtain ⟨r', hr', rfl⟩ := List.mem_map.1 hr; rw [List.length_map]; exact h.2 r' hr')
      (by simpa using hnc) (by simpa using hn) hcm hlt
      (by
        intro k j hk hj
        rw [List.length_map] at hk
        obtain ⟨g', c', hv', _, _, hc', _⟩ := h.cell hk hj
        rw [hv] at hv'
        injection hv' with hA _ _
        injection hA with hA
        injection hA with hA _ _
        subst hA
        rw [Nat.zero_add, hc']
        have hjl : j < rows[k].length := by rw [h.2 _ (List.getElem_mem hk)]; exact hj
        simp [hk, hjl])
      (by
        intro k hk j hj
        simp only [List.length_map] at hk
        simp only [List.getElem_map, List.length_map] at hj ⊢
        have : ((rows[k]?.getD [])[j]?).getD undef = rows[k][j] := by simp [hk, hj]
        rw [this]
        exact .leaf _)
    rw [List.length_map] at this
    rw [hv]
    exact this
end

/-- A step that hands an own slice on, in a call that has laid a block of its own first. -/
theorem own_step {w wr w1 : World} {v0 v v1 : Value} (hol : ∀ g, v0.ownBlock = some g → g < w.heap.size) (hup1 : Upd w wr (fun k => v0.ownBlock = some k)) (hfr1 : v.ownBlock = v0.ownBlock ∨ ∀ g, v.ownBlock = some g → w.heap.size < g)
    (hup2 : Upd wr w1 (fun k => v.ownBlock = some k)) (hfr2 : v1.ownBlock = v.ownBlock ∨ ∀ g, v1.ownBlock = some g → wr.heap.size ≤ g) (hsz : w.heap.size < wr.heap.size) :
    Upd w w1 (fun k => v0.ownBlock = some k) ∧ (v1.ownBlock = v0.ownBlock ∨ ∀ g, v1.ownBlock = some g → w.heap.size < g) ∧ w1.heap[w.heap.size]? = wr.heap[w.heap.size]? := by
  refine ⟨hup1.trans hup2 (fun i hi => ?_), ?_, hup2.block _ hsz (fun hi => ?_)⟩
  · rcases hfr1 with h | h
    · exact .inl (by rw [← h]; exact hi)
    · exact .inr (Nat.le_of_lt (h i hi))
  · rcases hfr2 with h | h
    · rcases hfr1 with h' | h'
      · exact .inl (h.trans h')
      · exact .inr fun g hg => h' g (by rw [← h]; exact hg)
    · exact .inr fun g hg => Nat.lt_of_lt_of_le hsz (h g hg)
  · rcases hfr1 with h | h
    · exact absurd (hol _ (by rw [← h]; exact hi)) (by omega)
    · exact absurd (h _ hi) (by omega)

/-- A store into a one-cell element. -/
theorem Own.set1 {w : World} {base g n c j : Nat} {e : TypeId} {rows : List Value} (h : Own w base e 1 (.slice (some ⟨g, 0, none⟩) n c) (rows.map fun u => [u])) (u : Value) :
    Own (w.setCell ⟨g, j, none⟩ u) base e 1 (.slice (some ⟨g, 0, none⟩) n c) ((rows.set j u).map fun u => [u]) := by
  have hn : n = rows.length := by
    obtain ⟨A, c', hv, _⟩ := h.form
    injection hv with _ hn _
    simpa using hn
  subst hn
  have hfl : ∀ l : List Value, (l.map fun u => [u]).flatten = l := fun l => by induction l with | nil => rfl | cons a l ih => simp [ih]
  refine ⟨?_, by intro r hr; obtain ⟨u', _, rfl⟩ := List.mem_map.1 hr; rfl⟩
  have h1 := h.1
  rw [List.length_map, hfl] at h1
  have := (h1.stored j u).1
  rw [List.length_map, hfl, List.length_set]
  exact this

section
variable {P : Program} (w : World)

/-- append of ONE element, whose cells lie in a block of their own. -/
theorem wpList_push {ops : Array Oper} {rest : List Oper} {o : Oper} {a : Act} {Q : Exit → Act → World → Prop} (hgd : o.guard = none) (s x : Operand) (t : TypeId)
    (ho : o.op = .call { callee := .builtin .append, args := #[s, x], argTypes := #[t, t] })
    {e : TypeId} {size bytes : Nat} (hT : SliceTy P t e size bytes)
    {base : Nat} {v : Value} {rows : List (List Value)} (hs : a.eval s = v) (hown : Own w base e size v rows)
    {g : Nat} {cells : Array Value} {te : TypeId} (hx : a.eval x = .slice (some ⟨g, 0, none⟩) 1 1) (hg : w.heap[g]? = some (.cells cells te (0, 0))) (hcs : cells.size = size) (h1 : ∀ u ∈ cells.toList, u.oneCell' = true)
    (hbytes : (rows.length + 1) * bytes ≤ 140737488355328) (h63 : rows.length + 1 ≤ maxLen) (hbase : base ≤ w.heap.size)
    (h : ∀ v' w', Own w' base e size v' (rows ++ [cells.toList]) → Upd w w' (fun k => v.ownBlock = some k) → (v'.ownBlock = v.ownBlock ∨ v'.ownBlock = some w.heap.size) → wpList P ops Q rest (a.put o.dst v') w') :
    wpList P ops Q (o :: rest) a w := by
  obtain ⟨i, z, hi, hz, hsize, hby, hzs⟩ := hT.hi
  refine wpList_append_own_at (P := P) w hgd s x t ho base e i z size bytes hT.ht hi hz hsize hby hzs hT.hs v rows.length rows.flatten hs hown.1 ⟨g, 0, none⟩ 1 1 cells.toList hx
    (by rw [Nat.one_mul, Array.length_toList]; exact hcs) ?_ h1 h63 hbytes hbase ?_
  · intro j u hu
    have hadd : (⟨g, 0, none⟩ : Addr).add j = ⟨g, j, none⟩ := by unfold Addr.add; split <;> simp_all
    rw [hadd, cell_of_row w g j cells te (0, 0) hg, ← Array.getElem?_toList]
    exact hu
  · intro v' w' hown' hgr _ hat
    refine h v' w' ⟨?_, ?_⟩ (Upd.grown hgr) hat
    · rw [List.length_append, List.flatten_append]
      simpa using hown'
    · intro r hr
      rcases List.mem_append.1 hr with h | h
      · exact hown.2 r h
      · rw [List.mem_singleton.1 h, Array.length_toList]; exact hcs
end

end Go.Proofs.Ytgmoneimfnackaa
