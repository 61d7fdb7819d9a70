/-
  What sine.Choose answers, in plain Lean; the chooser's table.
-/
import Derived.Test.YtikgjappablbhaaSineF
namespace Go.Proofs.Ytikgjappablbhaa
open Go.RowKit

/-! ## The plain law -/

/-- Are the numbers such as Choose takes? -/
def argsOk (tol dep : Int) : Bool := decide (0 ≤ tol) && decide (tol ≤ 1000) && (decide (tol = 0) || decide (10 ≤ tol)) && decide (0 ≤ dep)
/-- What is chosen ahead of the first round: the goals; what is there: their symbols. -/
def start (l : List En) : ChS := (fun i => (l[i]?.map fun x => isGoal x.role).getD false, fun y => l.any fun x => isGoal x.role && hasSy (own x) y)
/-- Each entry's symbols. -/
def ows (l : List En) : List (List Sy) := l.map own
/-- So many rounds: as many as asked for, or till nothing is new. -/
def nrounds (l : List En) (dep : Nat) : Nat := if dep = 0 then l.length + 1 else dep
/-- What is chosen at the end. -/
def final (l : List En) (tol dep : Nat) : ChS := rnds (common l) tol (ows l) (nrounds l dep) (start l)
/-- Are all chosen? -/
def allIn (l : List En) (tol : Nat) : Bool := decide (tol = 0) || !(l.any fun x => isGoal x.role)
/-- The numbers of those chosen. -/
def picked (l : List En) (tol dep : Nat) : List Nat := (List.range l.length).filter fun i => allIn l tol || (final l tol dep).1 i
def answer (l : List En) (tol dep : Int) : List Nat := if argsOk tol dep then picked l tol.toNat dep.toNat else []
def errno (tol dep : Int) : Int := if argsOk tol dep then 0 else 2

theorem rnds_end {c : Sy → Nat} {tol : Nat} {ow : List (List Sy)} {s : ChS} {r n : Nat} (h : more c tol ow (rnds c tol ow r s) = []) (hn : ow.length < n) : rnds c tol ow r s = rnds c tol ow n s := by
  have ⟨k, hk, hk2⟩ : ∃ k, k < n ∧ more c tol ow (rnds c tol ow k s) = [] := by
    apply Classical.byContradiction
    intro hno
    have h1 := many_rnds (c := c) (tol := tol) (ow := ow) (s := s) n (fun k hk e => hno ⟨k, hk, e⟩)
    have h2 := many_le ow.length (rnds c tol ow n s).1
    omega
  rcases Nat.le_total r k with hrk | hrk
  · have h1 := rnds_fix h (k - r)
    have h2 := rnds_fix h (n - r)
    rw [Nat.add_sub_cancel' (by omega)] at h2
    rw [h2]
  · have h1 := rnds_fix hk2 (r - k)
    have h2 := rnds_fix hk2 (n - k)
    rw [Nat.add_sub_cancel' (by omega)] at h1 h2
    rw [h1, h2]

theorem final_of {l : List En} {tol dep r : Nat} (h : (more (common l) tol (ows l) (rnds (common l) tol (ows l) r (start l)) = [] ∧ (dep ≠ 0 → r < dep)) ∨ (r = dep ∧ dep ≠ 0)) :
    rnds (common l) tol (ows l) r (start l) = final l tol dep := by
  unfold final nrounds
  rcases h with ⟨h, hd⟩ | ⟨rfl, hd⟩
  · by_cases h0 : dep = 0
    · rw [if_pos h0]
      exact rnds_end h (by simp [ows])
    · rw [if_neg h0]
      have := rnds_fix h (dep - r)
      rw [Nat.add_sub_cancel' (by have := hd h0; omega)] at this
      exact this.symm
  · rw [if_neg hd]

/-! ## The table -/
section
variable {w w' : World} {base : Nat} {ov : Value} {ow : List (List Sy)}

theorem Own.is {e : TypeId} {size : Nat} {v : Value} {rows : List (List Value)} (h : Own w base e size v rows) {g : Nat} (hg : v.ownBlock = some g) : ∃ cs, w.heap[g]? = some (.cells cs e (0, 0)) := by
  rcases h.1.2 with ⟨rfl, _⟩ | ⟨g', cap, cur, rfl, _, hb, _⟩
  · cases hg
  · injection hg with hg
    simp only at hg
    subst hg
    exact ⟨_, hb⟩

def OvT (w : World) (base : Nat) (ov : Value) (ow : List (List Sy)) : Prop :=
  ∃ vals : List Value, Own w base 25 1 ov (vals.map fun v => [v]) ∧ vals.length = ow.length ∧ ∀ j (h : j < vals.length) (h' : j < ow.length), Own w base 31 3 vals[j] (ow[j].map svs)

theorem OvT.nil (w : World) (base : Nat) : OvT w base (.slice none 0 0) [] := ⟨[], Own.nil _ _ _ _, rfl, fun j h => by simp at h⟩
theorem OvT.upd {F : Nat → Prop} (h : OvT w base ov ow) (hu : Upd w w' F) (hF : ∀ g cs t fr, F g → w.heap[g]? = some (.cells cs t fr) → t ≠ 25 ∧ t ≠ 31) : OvT w' base ov ow := by
  obtain ⟨vals, h1, h2, h3⟩ := h
  refine ⟨vals, h1.upd hu fun g hg hf => ?_, h2, fun j hj hj' => (h3 j hj hj').upd hu fun g hg hf => ?_⟩
  · obtain ⟨cs, hc⟩ := h1.is hg
    exact (hF _ _ _ _ hf hc).1 rfl
  · obtain ⟨cs, hc⟩ := (h3 j hj hj').is hg
    exact (hF _ _ _ _ hf hc).2 rfl
theorem OvT.low (h : OvT w base ov ow) (hb : Below w.heap.size w w') : OvT w' base ov ow := h.upd (Upd.low hb (fun _ => False)) (by simp)
theorem OvT.snoc {v ov' : Value} {o : List Sy} {vals : List Value} (h1 : Own w base 25 1 ov (vals.map fun v => [v])) (h2 : vals.length = ow.length) (h3 : ∀ j (h : j < vals.length) (h' : j < ow.length), Own w base 31 3 vals[j] (ow[j].map svs))
    (hv : Own w base 31 3 v (o.map svs)) (hown : Own w' base 25 1 ov' ((vals.map fun v => [v]) ++ [[v]])) (hu : Upd w w' (fun k => ov.ownBlock = some k)) : OvT w' base ov' (ow ++ [o]) := by
  refine ⟨vals ++ [v], by simpa using hown, by simp [h2], fun j hj hj' => ?_⟩
  have key : ∀ {u : Value} {q : List Sy}, Own w base 31 3 u (q.map svs) → Own w' base 31 3 u (q.map svs) := fun hq => hq.upd hu fun g hg e => h1.ne_own hq (by decide) g e hg
  by_cases hlt : j < vals.length
  · rw [List.getElem_append_left hlt, List.getElem_append_left (by omega)]
    exact key (h3 j hlt (by omega))
  · have hj2 : j = vals.length := by simp at hj; omega
    subst hj2
    rw [List.getElem_append_right (by omega), List.getElem_append_right (by omega)]
    simpa using key hv
theorem OvT.rd (h : OvT w base ov ow) (hn : ow.length ≤ 1000) (hn2 : ∀ o ∈ ow, o.length ≤ 1000000) : Rd w w.heap.size (.sl 1 (ow.map fun o => [.sl 3 (o.map encSy)])) ov := by
  obtain ⟨vals, h1, h2, h3⟩ := h
  have hsub : ∀ j (hj : j < vals.length) (hj' : j < ow.length), Rd w w.heap.size (.sl 3 (ow[j].map encSy)) vals[j] := fun j hj hj' => by
    have := (h3 j hj hj').rd (by rw [List.length_map]; have := hn2 _ (List.getElem_mem hj'); omega)
    have e : (ow[j].map svs).map (fun r => r.map Tr.leaf) = ow[j].map encSy := by simp [svs, encSy]
    rw [e] at this
    exact this
  obtain ⟨A, c, hv, hc, hm⟩ := h1.form
  rw [List.length_map, h2] at hv hc
  subst hv
  by_cases h0 : ow.length = 0
  · have : ow = [] := List.eq_nil_of_length_eq_zero h0
    subst this
    rcases h1.1.2 with ⟨h0, _⟩ | ⟨g, cap, cur, hv, hb, hg, hnc, hcm, hcs, htake⟩
    · injection h0 with h0 _ hc0
      subst h0
      subst hc0
      exact .none_ _
    · injection hv with hA hl hcc
      subst hA
      exact Rd.row 1 g 0 c [] (fun _ _ => undef) (by simp) (by simp) (by simp) hm (Array.getElem?_eq_some_iff.1 hg).1 (fun k j hk => by simp at hk) (fun k hk => by simp at hk)
  · obtain ⟨g, hA, hb, hg, _, _⟩ := Own.row_at (k := 0) h1 (by rw [List.length_map]; omega) (by omega)
    subst hA
    have := Rd.row (w := w) (B := w.heap.size) 1 g 0 c (ow.map fun o => [Tr.sl 3 (o.map encSy)]) (fun k _ => vals[k]?.getD undef) (by simp) (by rw [List.length_map]; exact hc) (by rw [List.length_map]; omega) hm hg
      (fun k j hk hj => by
        rw [List.length_map] at hk
        have hj0 : j = 0 := by omega
        subst hj0
        obtain ⟨g', hA', _, _, hcell, _⟩ := Own.row_at (k := k) h1 (by rw [List.length_map]; omega) (by omega)
        injection hA' with hA'
        injection hA' with hA'
        subst hA'
        have := hcell 0 (by omega)
        simp only [List.getElem_map, List.getElem_cons_zero] at this
        rw [List.getElem?_eq_getElem (by omega), Nat.zero_add]
        exact this)
      (fun k hk j hj => by
        rw [List.length_map] at hk
        simp only [List.getElem_map] at hj ⊢
        have hj0 : j = 0 := by simp at hj; omega
        subst hj0
        rw [List.getElem?_eq_getElem (by omega)]
        exact hsub k (by omega) hk)
    rw [List.length_map] at this
    exact this
end

theorem symsT : SliceTy Try.prog 62 25 1 24 := sliceTy Try.underlying62 (z := .slice none 0 0) (by kernel_rfl) rfl (by omega)

/-- How long a map is: nothing in it, or something. -/
theorem MapF.len {K : Type} [DecidableEq K] {w : World} {g : Nat} {enc : K → Value} {f : K → Option Value} (h : MapF w g enc f) : ∃ es c, w.heap[g]? = some (.map es c) ∧ (es.size = 0 ↔ ∀ x, f x = none) := by
  obtain ⟨es, c, kv, hg, he, hf⟩ := h
  refine ⟨es, c, hg, ?_⟩
  have hl : es.size = kv.length := by
    have := congrArg List.length he
    simpa using this
  rw [hl]
  constructor
  · intro h0 x
    have : kv = [] := List.eq_nil_of_length_eq_zero h0
    rw [hf, this]; rfl
  · intro hn
    cases kv with
    | nil => rfl
    | cons p kv =>
      have := hn p.1
      rw [hf] at this
      simp [findIx] at this

end Go.Proofs.Ytikgjappablbhaa
