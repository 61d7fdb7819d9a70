/-
  The plain law of sine: what is common, what is chosen, as lists and functions; no program in sight.
-/
import Derived.Test.YtikgjappablbhaaSyms
namespace Go.Proofs.Ytikgjappablbhaa
open Go.RowKit

/-- Is a role a goal's? -/
def isGoal (r : ByteArray) : Bool := r.toList == [99, 111, 110, 106, 101, 99, 116, 117, 114, 101] || r.toList == [110, 101, 103, 97, 116, 101, 100, 95, 99, 111, 110, 106, 101, 99, 116, 117, 114, 101]

def addAll (l r : List Sy) : List Sy := r.foldl addSy l
theorem addAll_nil (l : List Sy) : addAll l [] = l := rfl
theorem addAll_append (l a b : List Sy) : addAll l (a ++ b) = addAll (addAll l a) b := List.foldl_append
theorem addAll_snoc (l a : List Sy) (s : Sy) : addAll l (a ++ [s]) = addSy (addAll l a) s := by rw [addAll_append]; rfl
theorem mem_addSy (l : List Sy) (s x : Sy) : x ∈ addSy l s ↔ x ∈ l ∨ x = s := by
  unfold addSy
  split
  · rename_i h
    have := (hasSy_iff l s).1 h
    constructor
    · exact .inl
    · rintro (h | rfl)
      · exact h
      · exact this
  · simp
theorem mem_addAll (l r : List Sy) (x : Sy) : x ∈ addAll l r ↔ x ∈ l ∨ x ∈ r := by
  induction r generalizing l with
  | nil => simp [addAll]
  | cons a r ih => rw [addAll, List.foldl_cons, ← addAll, ih, mem_addSy]; simp [or_assoc]
theorem addSy_mem {l : List Sy} {s : Sy} (h : s ∈ l) : addSy l s = l := by unfold addSy; rw [if_pos ((hasSy_iff l s).2 h)]
theorem addSy_not {l : List Sy} {s : Sy} (h : s ∉ l) : addSy l s = l ++ [s] := by
  unfold addSy; rw [if_neg]; rw [hasSy_iff]; exact h
theorem addSy_nodup {l : List Sy} (h : l.Nodup) (s : Sy) : (addSy l s).Nodup := by
  by_cases hs : s ∈ l
  · rw [addSy_mem hs]; exact h
  · rw [addSy_not hs, List.nodup_append]
    exact ⟨h, by simp, fun a ha b hb e => hs (by rw [List.mem_singleton.1 hb] at e; rw [← e]; exact ha)⟩
theorem addAll_nodup {l : List Sy} (h : l.Nodup) (r : List Sy) : (addAll l r).Nodup := by
  induction r generalizing l with
  | nil => exact h
  | cons a r ih => exact ih (addSy_nodup h a)

/-- Adding what was added to nothing first. -/
theorem addAll_addAll (l a b : List Sy) : addAll l (addAll a b) = addAll (addAll l a) b := by
  induction b generalizing a with
  | nil => rfl
  | cons s b ih =>
    show addAll l (addAll (addSy a s) b) = addAll (addSy (addAll l a) s) b
    rw [ih]
    congr 1
    by_cases hs : s ∈ a
    · rw [addSy_mem hs, addSy_mem ((mem_addAll l a s).2 (.inr hs))]
    · rw [addSy_not hs, addAll_snoc]

mutual
theorem symsEx_add (p : Bool) (l : List Sy) : ∀ (a : List Sy) (e : Ex), symsEx p (addAll l a) e = addAll l (symsEx p a e)
  | a, .mk b s xs => by
    simp only [symsEx]
    cases b
    · simp only [Bool.false_eq_true, if_false]
      have : addSy (addAll l a) (s, xs.length, p) = addAll l (addSy a (s, xs.length, p)) := by
        have := addAll_addAll l a [(s, xs.length, p)]
        exact this.symm
      rw [this]
      exact symsExs_add false l _ xs
    · simp only [if_true]
      exact symsExs_add false l _ xs
theorem symsExs_add (p : Bool) (l : List Sy) : ∀ (a : List Sy) (xs : List Ex), symsExs p (addAll l a) xs = addAll l (symsExs p a xs)
  | a, [] => rfl
  | a, e :: es => by
    simp only [symsExs]
    rw [symsEx_add p l a e]
    exact symsExs_add p l _ es
end
mutual
theorem symsFm_add (l : List Sy) : ∀ (a : List Sy) (e : Fm), symsFm (addAll l a) e = addAll l (symsFm a e)
  | a, .mk o vs ts fs => by
    simp only [symsFm]
    rw [symsExs_add]
    exact symsFms_add l _ fs
theorem symsFms_add (l : List Sy) : ∀ (a : List Sy) (xs : List Fm), symsFms (addAll l a) xs = addAll l (symsFms a xs)
  | a, [] => rfl
  | a, e :: es => by
    simp only [symsFms]
    rw [symsFm_add l a e]
    exact symsFms_add l _ es
end

mutual
theorem symsEx_nodup (p : Bool) : ∀ (l : List Sy) (e : Ex), l.Nodup → (symsEx p l e).Nodup
  | l, .mk b s xs, h => by
    simp only [symsEx]
    refine symsExs_nodup false _ xs ?_
    cases b
    · exact addSy_nodup h _
    · exact h
theorem symsExs_nodup (p : Bool) : ∀ (l : List Sy) (xs : List Ex), l.Nodup → (symsExs p l xs).Nodup
  | _, [], h => h
  | l, e :: es, h => symsExs_nodup p _ es (symsEx_nodup p l e h)
end
mutual
theorem symsFm_nodup : ∀ (l : List Sy) (e : Fm), l.Nodup → (symsFm l e).Nodup
  | _, .mk _ _ ts fs, h => symsFms_nodup _ fs (symsExs_nodup _ _ ts h)
theorem symsFms_nodup : ∀ (l : List Sy) (xs : List Fm), l.Nodup → (symsFms l xs).Nodup
  | _, [], h => h
  | l, e :: es, h => symsFms_nodup _ es (symsFm_nodup l e h)
end

/-- An entry's own symbols. -/
def own (x : En) : List Sy := symsFm [] x.form
theorem own_nodup (x : En) : (own x).Nodup := symsFm_nodup [] _ List.nodup_nil
/-- All entries' symbols. -/
def allSy (l : List En) : List Sy := l.foldl (fun a x => addAll a (own x)) []
theorem symsFm_own (a : List Sy) (x : En) : symsFm a x.form = addAll a (own x) := by
  have := symsFm_add a [] x.form
  exact this
theorem allSy_snoc (l : List En) (x : En) : allSy (l ++ [x]) = addAll (allSy l) (own x) := by simp [allSy]
theorem mem_allSy (l : List En) (s : Sy) : s ∈ allSy l ↔ ∃ x ∈ l, s ∈ own x := by
  have key : ∀ (l : List En) (a : List Sy), s ∈ l.foldl (fun a x => addAll a (own x)) a ↔ s ∈ a ∨ ∃ x ∈ l, s ∈ own x := by
    intro l
    induction l with
    | nil => simp
    | cons x l ih => intro a; rw [List.foldl_cons, ih, mem_addAll]; simp [or_assoc]
  unfold allSy
  rw [key]
  simp
theorem allSy_nodup (l : List En) : (allSy l).Nodup := by
  have key : ∀ (l : List En) (a : List Sy), a.Nodup → (l.foldl (fun a x => addAll a (own x)) a).Nodup := by
    intro l
    induction l with
    | nil => simp
    | cons x l ih => intro a h; exact ih _ (addAll_nodup h _)
  exact key l [] List.nodup_nil

/-- Does an entry count for a symbol: is it an axiom in which it stands? -/
def counts (s : Sy) (x : En) : Bool := !isGoal x.role && hasSy (own x) s
/-- How common a symbol is. -/
def common (l : List En) (s : Sy) : Nat := l.countP (counts s)
theorem common_snoc (l : List En) (x : En) (s : Sy) : common (l ++ [x]) s = common l s + if counts s x then 1 else 0 := by
  unfold common; rw [List.countP_append]; simp [List.countP_cons, List.countP_nil]
theorem common_le (l : List En) (s : Sy) : common l s ≤ l.length := List.countP_le_length
theorem common_zero {l : List En} {s : Sy} (h : s ∉ allSy l) : common l s = 0 := by
  unfold common
  rw [List.countP_eq_zero]
  intro x hx
  have : s ∉ own x := fun hs => h ((mem_allSy l s).2 ⟨x, hx, hs⟩)
  have h2 := (hasSy_not (own x) s).2 this
  simp [counts, h2]
/-- How common all symbols are, in their order. -/
def commons (l : List En) : List Nat := (allSy l).map (common l)

theorem own_len (x : En) : (own x).length ≤ nodesFm x.form := by
  have := symsFm_len [] x.form
  simpa [own] using this
theorem addSy_len' (l : List Sy) (s : Sy) : l.length ≤ (addSy l s).length := by unfold addSy; split <;> simp
theorem addAll_len (l r : List Sy) : (addAll l r).length ≤ l.length + r.length := by
  induction r generalizing l with
  | nil => simp [addAll]
  | cons a r ih =>
    have h1 := ih (addSy l a)
    have h2 := addSy_len l a
    show (addAll (addSy l a) r).length ≤ _
    simp only [List.length_cons]; omega
theorem allSy_len {l : List En} {N : Nat} (h : ∀ x ∈ l, nodesFm x.form ≤ N) : (allSy l).length ≤ l.length * N := by
  have key : ∀ (l : List En) (a : List Sy), (∀ x ∈ l, nodesFm x.form ≤ N) → (l.foldl (fun a x => addAll a (own x)) a).length ≤ a.length + l.length * N := by
    intro l
    induction l with
    | nil => simp
    | cons x l ih =>
      intro a h
      have h1 := ih (addAll a (own x)) (fun y hy => h y (by simp [hy]))
      have h2 := addAll_len a (own x)
      have h3 := own_len x
      have h4 := h x (by simp)
      simp only [List.foldl_cons, List.length_cons, Nat.succ_mul]
      omega
  have := key l [] h
  simpa [allSy] using this

end Go.Proofs.Ytikgjappablbhaa
