/-
  A region that draws its order, by an invariant: each operation is carried out once, whatever came before it ('wpAny_inv', 'RegInv'); rows that were just laid. It imports nothing of the program.
-/
import Derived.Test.YtgmoneimfnackaaRd
import Derived.Orders
namespace Go.Proofs.Ytgmoneimfnackaa
open Go.RowKit

section
variable {P : Program} {ops : Array Oper} {Q : Exit → Act → World → Prop}

theorem count_set {l : List Bool} {i : Nat} (hi : i < l.length) (h : l[i] = false) : (l.set i true).countP (fun b => !b) + 1 = l.countP (fun b => !b) := by
  induction l generalizing i with
  | nil => simp at hi
  | cons b l ih =>
    cases i with
    | zero =>
      simp only [List.getElem_cons_zero] at h
      subst h
      simp
    | succ i =>
      simp only [List.getElem_cons_succ] at h
      have := ih (i := i) (by simpa using hi) h
      simp only [List.set_cons_succ, List.countP_cons]
      omega

theorem all_listed {listed : Array Bool} (hs : ∀ (i : Nat) (o : Oper), ops[i]? = some o → ∀ e ∈ o.after, e.on < i) (hz : listed.size = ops.size) (hr : Region.ready .any ops listed = []) : ∀ i, i < ops.size → listed.getD i false = true := by
  intro i
  induction i using Nat.strongRecOn with
  | ind i ih =>
    intro hi
    cases hb : listed.getD i false with
    | true => rfl
    | false =>
      exfalso
      have : i ∈ Region.ready .any ops listed := by
        refine mem_ready.2 ⟨?_, ops[i], Array.getElem?_eq_getElem hi, fun e he _ => ?_⟩
        · have hl : i < listed.size := by omega
          simp [hl] at hb ⊢
          exact hb
        · have h1 := hs i ops[i] (Array.getElem?_eq_getElem hi) e he
          exact ih e.on h1 (by omega)
      rw [hr] at this
      cases this

/-- AN INVARIANT THROUGH A REGION THAT DRAWS: it is kept by each operation that comes up when those it waits for have come. -/
theorem wpAny_inv (I : Array Bool → Act → World → Prop) (hs : ∀ (i : Nat) (o : Oper), ops[i]? = some o → ∀ e ∈ o.after, e.on < i)
    (step : ∀ listed a w i o, listed.size = ops.size → I listed a w → ops[i]? = some o → (∀ e ∈ o.after, Region.binds .any e = true → listed.getD e.on false = true) → wpOp P ops Q i (fun a' w' => I (listed.setIfInBounds i true) a' w') a w)
    (fin : ∀ listed a w, (∀ i, i < ops.size → listed.getD i false = true) → I listed a w → Q .normal a w) :
    ∀ fuel listed a w, listed.size = ops.size → listed.toList.countP (fun b => !b) ≤ fuel → I listed a w → wpAny P .any ops Q fuel listed a w := by
  intro fuel
  induction fuel with
  | zero =>
    intro listed a w hz hc hI
    have hr : Region.ready .any ops listed = [] := by
      rw [List.eq_nil_iff_forall_not_mem]
      intro j hj
      obtain ⟨h1, o, ho, _⟩ := mem_ready.1 hj
      have hlt : j < listed.size := by rw [hz]; exact (Array.getElem?_eq_some_iff.1 ho).1
      have hc0 : listed.toList.countP (fun b => !b) = 0 := by omega
      rw [List.countP_eq_zero] at hc0
      have := hc0 listed[j] (by simp)
      simp [hlt] at h1
      simp [h1] at this
    exact ⟨hr, fin listed a w (all_listed hs hz hr) hI⟩
  | succ fuel ih =>
    intro listed a w hz hc hI
    refine ⟨fun hr => fin listed a w (all_listed hs hz hr) hI, fun i hi => ?_⟩
    obtain ⟨h1, o, ho, hd⟩ := mem_ready.1 hi
    have hlt : i < listed.size := by rw [hz]; exact (Array.getElem?_eq_some_iff.1 ho).1
    refine wpOp_mono (fun a' w' h => ih _ a' w' (by simpa using hz) ?_ h) (step listed a w i o hz hI ho hd)
    have := count_set (l := listed.toList) (i := i) (by simpa using hlt) (by simp [hlt] at h1; simpa using h1)
    rw [Array.toList_setIfInBounds]
    omega

/-- What has come up stands in its slot; the other slots are as they were. -/
structure RegInv (V : Nat → Value → World → Prop) (D : Nat → Nat) (n : Nat) (T : Array Value) (ds : List Deferred) (W : World) (listed : Array Bool) (a : Act) (w : World) : Prop where
  sz : a.tmps.size = T.size
  df : a.defers = ds
  bel : Below W.heap.size W w
  fix : ∀ s, (∀ k, k < n → D k ≠ s) → a.tmps.getD s undef = T.getD s undef
  done : ∀ k, k < n → listed.getD k false = true → V k (a.tmps.getD (D k) undef) w

theorem RegInv.put {V : Nat → Value → World → Prop} {D : Nat → Nat} {n i : Nat} {T : Array Value} {ds : List Deferred} {W w w' : World} {listed : Array Bool} {a : Act} {v : Value} (h : RegInv V D n T ds W listed a w)
    (hV : ∀ k v, Below w.heap.size w w' → V k v w → V k v w') (hb : Below w.heap.size w w') (hi : i < n) (hd : ∀ k k', k < n → k' < n → D k = D k' → k = k') (hlt : D i < T.size) (hl : i < listed.size) (hv : V i v w') :
    RegInv V D n T ds W (listed.setIfInBounds i true) (a.put (some (D i)) v) w' := by
  have hg : ∀ s, (a.put (some (D i)) v).tmps.getD s undef = if s = D i then v else a.tmps.getD s undef := by
    intro s
    have hsz := h.sz
    simp only [Act.put]
    by_cases hs : s = D i
    · subst hs
      simp [hsz, hlt]
    · rw [if_neg hs]
      simp [Array.getElem?_setIfInBounds_ne (Ne.symm hs)]
  refine ⟨by simp [Act.put, h.sz], by simp [Act.put, h.df], h.bel.trans (hb.mono h.bel.size), fun s hs => ?_, fun k hk hlk => ?_⟩
  · rw [hg, if_neg (fun e => hs i hi e.symm)]
    exact h.fix s hs
  · rw [hg]
    by_cases hki : k = i
    · subst hki
      rw [if_pos rfl]
      exact hv
    · rw [if_neg (fun e => hki (hd k i hk hi e))]
      refine hV k _ hb (h.done k hk ?_)
      rw [getD_set_ne false (Ne.symm hki)] at hlk
      exact hlk

theorem wpOp_of {i : Nat} {o : Oper} {K : Act → World → Prop} {a : Act} {w : World} (hi : ops[i]? = some o) (hg : o.guard = none) (h : o.wp P a w K Q) : wpOp P ops Q i K a w := by
  unfold wpOp
  simp only [hi, Region.wanted, hg, if_true]
  exact .inl h

theorem wp_value {o : Oper} {K : Act → World → Prop} {a : Act} {w w' : World} {v : Value} (h : (execOp a.eval o).run P w = .ok (.value v) w') (hk : K (a.put o.dst v) w') : o.wp P a w K Q := by
  unfold Oper.wp
  rw [h]
  exact hk

theorem wp_enter {o : Oper} {K : Act → World → Prop} {a : Act} {w w' : World} {f : FuncId} {args : Array Value} {R : Ending → World → Prop} (h : (execOp a.eval o).run P w = .ok (.enter f args) w') (hc : Calls P f args w' R)
    (hk : ∀ e w'', R e w'' → ∃ v, e = .returned v ∧ K (a.put o.dst v) w'') : o.wp P a w K Q := by
  unfold Oper.wp
  rw [h]
  refine Calls.mono hc fun e w'' hr => ?_
  obtain ⟨v, rfl, h⟩ := hk e w'' hr
  exact h
end

/-- A row that was just laid. -/
theorem rd_block {w : World} {B b size : Nat} {cs : Array Value} {t : TypeId} {fr : Nat × Nat} {rows : List (List Tr)} (hb : w.heap[b]? = some (.cells cs t fr)) (hB : b < B) (hl : ∀ r ∈ rows, r.length = size) (hn : rows.length ≤ 1000000)
    (us : Nat → Nat → Value) (hc : ∀ k j, k < rows.length → j < size → cs[k * size + j]? = some (us k j)) (hr : ∀ k (h : k < rows.length) j (h' : j < rows[k].length), Rd w B rows[k][j] (us k j)) :
    Rd w B (.sl size rows) (.slice (some ⟨b, 0, none⟩) rows.length rows.length) :=
  Rd.row size b 0 rows.length rows us hl (Nat.le_refl _) (by omega) (by unfold maxLen; omega) hB
    (fun k j hk hj => by
      have := hc k j hk hj
      unfold World.cell?
      rw [hb]
      simpa using this) hr

end Go.Proofs.Ytgmoneimfnackaa
