/-
  A region that draws its order, operation by operation ('wp_region_reg'): each operation is shown once, whatever came before it; what each leaves in its slot is told ('V'). It imports nothing of the program.
-/
import Derived.Test.YtgmoneimfnackaaAnyInv
namespace Go.Proofs.Ytgmoneimfnackaa
open Go.RowKit

section
variable {P : Program} {ops : Array Oper} {Q : Exit → Act → World → Prop}

/-- 'wpAny_inv', where a step knows that its operation has not come up. -/
theorem wpAny_inv2 (I : Array Bool → Act → World → Prop) (hs : ∀ (i : Nat) (o : Oper), ops[i]? = some o → ∀ e ∈ o.after, e.on < i)
    (step : ∀ listed a w i o, listed.size = ops.size → I listed a w → ops[i]? = some o → listed.getD i false = false → (∀ e ∈ o.after, Region.binds .any e = true → listed.getD e.on false = true) → wpOp P ops Q i (fun a' w' => I (listed.setIfInBounds i true) a' w') a w)
    (fin : ∀ listed a w, (∀ i, i < ops.size → listed.getD i false = true) → I listed a w → Q .normal a w) :
    ∀ fuel listed a w, listed.size = ops.size → listed.toList.countP (fun b => !b) ≤ fuel → I listed a w → wpAny P .any ops Q fuel listed a w := by
  intro fuel
  induction fuel with
  | zero =>
    intro listed a w hz hc hI
    have hr : Region.ready .any ops listed = [] := by
      rw [List.eq_nil_iff_forall_not_mem]
      intro j hj
      obtain ⟨h1, o, ho, _⟩ := mem_ready.1 hj
      have hlt : j < listed.size := by rw [hz]; exact (Array.getElem?_eq_some_iff.1 ho).1
      have hc0 : listed.toList.countP (fun b => !b) = 0 := by omega
      rw [List.countP_eq_zero] at hc0
      have := hc0 listed[j] (by simp)
      simp [hlt] at h1
      simp [h1] at this
    exact ⟨hr, fin listed a w (all_listed hs hz hr) hI⟩
  | succ fuel ih =>
    intro listed a w hz hc hI
    refine ⟨fun hr => fin listed a w (all_listed hs hz hr) hI, fun i hi => ?_⟩
    obtain ⟨h1, o, ho, hd⟩ := mem_ready.1 hi
    have hlt : i < listed.size := by rw [hz]; exact (Array.getElem?_eq_some_iff.1 ho).1
    refine wpOp_mono (fun a' w' h => ih _ a' w' (by simpa using hz) ?_ h) (step listed a w i o hz hI ho (by simp [hlt] at h1 ⊢; exact h1) hd)
    have := count_set (l := listed.toList) (i := i) (by simpa using hlt) (by simp [hlt] at h1; simpa using h1)
    rw [Array.toList_setIfInBounds]
    omega

/-- What has come up stands in its slot; the other slots are as they were. -/
structure RegI (ops : Array Oper) (V : Nat → Value → World → Prop) (D : Nat → Nat) (T : Array Value) (ds : List Deferred) (W : World) (listed : Array Bool) (a : Act) (w : World) : Prop where
  sz : a.tmps.size = T.size
  df : a.defers = ds
  bel : Below W.heap.size W w
  fix : ∀ s, (∀ k, k < ops.size → D k ≠ s) → a.tmps.getD s undef = T.getD s undef
  old : ∀ k, k < ops.size → listed.getD k false = false → a.tmps.getD (D k) undef = T.getD (D k) undef
  done : ∀ k, k < ops.size → listed.getD k false = true → V k (a.tmps.getD (D k) undef) w
  cl : ∀ k o, ops[k]? = some o → listed.getD k false = true → ∀ e ∈ o.after, Region.binds .any e = true → listed.getD e.on false = true

/-- A slot that a later operation fills is as it was. -/
theorem RegI.before {V : Nat → Value → World → Prop} {D : Nat → Nat} {T : Array Value} {ds : List Deferred} {W w : World} {listed : Array Bool} {a : Act} (h : RegI ops V D T ds W listed a w) {i k : Nat} {o : Oper}
    (hk : ops[k]? = some o) (he : ∃ e ∈ o.after, e.on = i ∧ Region.binds .any e = true) (hl : listed.getD i false = false) : a.tmps.getD (D k) undef = T.getD (D k) undef := by
  refine h.old k (Array.getElem?_eq_some_iff.1 hk).1 ?_
  cases hb : listed.getD k false with
  | false => rfl
  | true =>
    obtain ⟨e, he1, rfl, he3⟩ := he
    rw [h.cl k o hk hb e he1 he3] at hl
    cases hl

theorem put_getD {a : Act} {d s : Nat} {v : Value} (hd : d < a.tmps.size) : (a.put (some d) v).tmps.getD s undef = if s = d then v else a.tmps.getD s undef := by
  simp only [Act.put]
  by_cases hs : s = d
  · subst hs
    simp [hd]
  · rw [if_neg hs]
    simp [Array.getElem?_setIfInBounds_ne (Ne.symm hs)]

theorem wp_region_reg {V : Nat → Value → World → Prop} {D : Nat → Nat} {T : Array Value} {ds : List Deferred} {W : World} {id : Nat} (hm : P.follows .mixedOrders = true)
    (hs : ∀ (i : Nat) (o : Oper), ops[i]? = some o → (∀ e ∈ o.after, e.on < i) ∧ o.dst = some (D i) ∧ D i < T.size) (hd : ∀ k k', k < ops.size → k' < ops.size → D k = D k' → k = k')
    (hV : ∀ k v w w', Below w.heap.size w w' → V k v w → V k v w')
    (step : ∀ listed a w i o, RegI ops V D T ds { W with drawn := W.drawn + 1 } listed a w → ops[i]? = some o → listed.getD i false = false → (∀ e ∈ o.after, Region.binds .any e = true → listed.getD e.on false = true) →
      wpOp P ops Q i (fun a' w' => ∃ v, a' = a.put (some (D i)) v ∧ Below w.heap.size w w' ∧ V i v w') a w)
    (fin : ∀ a w, a.tmps.size = T.size → a.defers = ds → Below W.heap.size W w → (∀ s, (∀ k, k < ops.size → D k ≠ s) → a.tmps.getD s undef = T.getD s undef) → (∀ k, k < ops.size → V k (a.tmps.getD (D k) undef) w) → Q .normal a w) :
    (Code.region id ops true).wp P Q ⟨T, ds⟩ W := by
  refine wp_region_any hm ?_
  refine wpAny_inv2 (RegI ops V D T ds { W with drawn := W.drawn + 1 }) (fun i o ho => (hs i o ho).1) ?_ ?_ _ _ _ _ (by simp) (by simp [List.countP_replicate]) ?_
  · intro listed a w i o hz hI ho hl hdep
    have hi : i < ops.size := (Array.getElem?_eq_some_iff.1 ho).1
    refine wpOp_mono ?_ (step listed a w i o hI ho hl hdep)
    rintro a' w' ⟨v, rfl, hb, hv⟩
    have hlt : D i < a.tmps.size := by rw [hI.sz]; exact (hs i o ho).2.2
    refine ⟨by simp [Act.put, hI.sz], by simp [Act.put, hI.df], hI.bel.trans (hb.mono hI.bel.size), fun s hs' => ?_, fun k hk hlk => ?_, fun k hk hlk => ?_, fun k o' hk hlk e he hbi => ?_⟩
    · rw [put_getD hlt, if_neg (fun e => hs' i hi e.symm)]
      exact hI.fix s hs'
    · have hki : k ≠ i := by
        rintro rfl
        simp [hz, hi] at hlk
      rw [put_getD hlt, if_neg (fun e => hki (hd k i hk hi e))]
      rw [getD_set_ne false (Ne.symm hki)] at hlk
      exact hI.old k hk hlk
    · rw [put_getD hlt]
      by_cases hki : k = i
      · subst hki
        rw [if_pos rfl]
        exact hv
      · rw [if_neg (fun e => hki (hd k i hk hi e))]
        rw [getD_set_ne false (Ne.symm hki)] at hlk
        exact hV k _ _ _ hb (hI.done k hk hlk)
    · by_cases hei : e.on = i
      · rw [hei]
        simp [hz, hi]
      · rw [getD_set_ne false (Ne.symm hei)]
        by_cases hki : k = i
        · subst hki
          rw [ho] at hk
          injection hk with hk
          subst hk
          exact hdep e he hbi
        · rw [getD_set_ne false (Ne.symm hki)] at hlk
          exact hI.cl k o' hk hlk e he hbi
  · intro listed a w hall hI
    exact fin a w hI.sz hI.df ⟨hI.bel.os, hI.bel.tape, hI.bel.output, hI.bel.size, hI.bel.block⟩ hI.fix (fun k hk => hI.done k hk (hall k hk))
  · refine ⟨rfl, rfl, Below.refl _ _, fun _ _ => rfl, fun _ _ _ => rfl, fun k hk h => ?_, fun k o hk h => ?_⟩
    all_goals
      exfalso
      rw [Array.getD_eq_getD_getElem?, Array.getElem?_replicate] at h
      split at h <;> simp at h

/-- The slots behind a region whose operations leave told values. -/
def setAll (D : Nat → Nat) (vals : Nat → Value) (T : Array Value) : Nat → Array Value
  | 0 => T
  | n + 1 => (setAll D vals T n).setIfInBounds (D n) (vals n)
theorem setAll_size (D : Nat → Nat) (vals : Nat → Value) (T : Array Value) : ∀ n, (setAll D vals T n).size = T.size
  | 0 => rfl
  | n + 1 => by unfold setAll; rw [Array.size_setIfInBounds, setAll_size D vals T n]
theorem setAll_at (D : Nat → Nat) (vals : Nat → Value) (T : Array Value) : ∀ n, (∀ k k', k < n → k' < n → D k = D k' → k = k') → (∀ k, k < n → D k < T.size) →
    (∀ k, k < n → (setAll D vals T n).getD (D k) undef = vals k) ∧ ∀ s, (∀ k, k < n → D k ≠ s) → (setAll D vals T n).getD s undef = T.getD s undef
  | 0, _, _ => ⟨fun k hk => by omega, fun _ _ => rfl⟩
  | n + 1, hd, hl => by
    obtain ⟨h1, h2⟩ := setAll_at D vals T n (fun k k' hk hk' => hd k k' (by omega) (by omega)) (fun k hk => hl k (by omega))
    have hg : ∀ s, (setAll D vals T (n + 1)).getD s undef = if s = D n then vals n else (setAll D vals T n).getD s undef := fun s => by
      have := put_getD (a := ⟨setAll D vals T n, []⟩) (d := D n) (s := s) (v := vals n) (by rw [setAll_size]; exact hl n (by omega))
      exact this
    refine ⟨fun k hk => ?_, fun s hs => ?_⟩
    · rw [hg]
      by_cases hkn : k = n
      · subst hkn; rw [if_pos rfl]
      · rw [if_neg (fun e => hkn (hd k n hk (by omega) e))]
        exact h1 k (by omega)
    · rw [hg, if_neg (fun e => hs n (by omega) e.symm)]
      exact h2 s (fun k hk => hs k (by omega))
theorem getD_ext {a b : Array Value} (hs : a.size = b.size) (h : ∀ i, a.getD i undef = b.getD i undef) : a = b := by
  refine Array.ext hs fun i h1 h2 => ?_
  have := h i
  simpa [h1, h2] using this

theorem wp_region_vals {vals : Nat → Value} {D : Nat → Nat} {T : Array Value} {ds : List Deferred} {W : World} {id : Nat} (hm : P.follows .mixedOrders = true)
    (hs : ∀ (i : Nat) (o : Oper), ops[i]? = some o → (∀ e ∈ o.after, e.on < i) ∧ o.dst = some (D i) ∧ D i < T.size) (hd : ∀ k k', k < ops.size → k' < ops.size → D k = D k' → k = k')
    (step : ∀ listed a w i o, RegI ops (fun k v _ => v = vals k) D T ds { W with drawn := W.drawn + 1 } listed a w → ops[i]? = some o → listed.getD i false = false → (∀ e ∈ o.after, Region.binds .any e = true → listed.getD e.on false = true) →
      wpOp P ops Q i (fun a' w' => ∃ v, a' = a.put (some (D i)) v ∧ Below w.heap.size w w' ∧ v = vals i) a w)
    (fin : ∀ w, Below W.heap.size W w → Q .normal ⟨setAll D vals T ops.size, ds⟩ w) :
    (Code.region id ops true).wp P Q ⟨T, ds⟩ W := by
  refine wp_region_reg (V := fun k v _ => v = vals k) hm hs hd (fun _ _ _ _ _ h => h) step ?_
  rintro ⟨t, d⟩ w h1 h2 h3 h4 h5
  simp only at h1 h2 h4 h5
  subst h2
  have hl : ∀ k, k < ops.size → D k < T.size := fun k hk => (hs k ops[k] (Array.getElem?_eq_getElem hk)).2.2
  obtain ⟨g1, g2⟩ := setAll_at D vals T ops.size hd hl
  have : t = setAll D vals T ops.size := by
    refine getD_ext (by rw [setAll_size]; exact h1) fun i => ?_
    by_cases hi : ∃ k, k < ops.size ∧ D k = i
    · obtain ⟨k, hk, rfl⟩ := hi
      rw [g1 k hk]
      exact h5 k hk
    · have hi' : ∀ k, k < ops.size → D k ≠ i := fun k hk e => hi ⟨k, hk, e⟩
      rw [g2 i hi', h4 i hi']
  subst this
  exact fin w h3
end

end Go.Proofs.Ytgmoneimfnackaa
