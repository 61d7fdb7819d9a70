/-
  The laws of what sine.Choose answers, in plain Lean: it grows with tolerance and depth; it does not hang on the order of the entries; what is chosen speaks of something that is chosen.
-/
import Derived.Test.YtikgjappablbhaaSineG
namespace Go.Proofs.Ytikgjappablbhaa
open Go.RowKit

section
variable {c : Sy → Nat} {tol tol' : Nat} {ow : List (List Sy)} {s s' : ChS}

theorem mem_more {i : Nat} : i ∈ more c tol ow s ↔ i < ow.length ∧ s.1 i = false ∧ trig c s.2 tol (ow.getD i []) = true := by
  unfold more
  rw [List.mem_filter, List.mem_range]
  simp only [Bool.and_eq_true, Bool.not_eq_true']
theorem rnd_1 {i : Nat} : (rnd c tol ow s).1 i = true ↔ i ∈ more c tol ow s ∨ s.1 i = true := by
  show (decide (i ∈ more c tol ow s) || s.1 i) = true ↔ _
  simp only [Bool.or_eq_true, decide_eq_true_eq]
theorem rnd_2 {y : Sy} : (rnd c tol ow s).2 y = true ↔ (∃ i ∈ more c tol ow s, hasSy (ow.getD i []) y = true) ∨ s.2 y = true := by
  show ((more c tol ow s).any (fun i => hasSy (ow.getD i []) y) || s.2 y) = true ↔ _
  simp only [Bool.or_eq_true, List.any_eq_true]

/-- What is chosen has its symbols there. -/
def InvA (ow : List (List Sy)) (s : ChS) : Prop := ∀ i, s.1 i = true → ∀ y, hasSy (ow.getD i []) y = true → s.2 y = true
def LeS (s s' : ChS) : Prop := (∀ i, s.1 i = true → s'.1 i = true) ∧ ∀ y, s.2 y = true → s'.2 y = true

theorem LeS.refl (s : ChS) : LeS s s := ⟨fun _ h => h, fun _ h => h⟩
theorem LeS.trans {a b d : ChS} (h : LeS a b) (k : LeS b d) : LeS a d := ⟨fun i hi => k.1 i (h.1 i hi), fun y hy => k.2 y (h.2 y hy)⟩
theorem le_rnd : LeS s (rnd c tol ow s) := ⟨fun _ h => rnd_1.2 (.inr h), fun _ h => rnd_2.2 (.inr h)⟩
theorem invA_rnd (h : InvA ow s) : InvA ow (rnd c tol ow s) := fun i hi y hy => by
  rcases rnd_1.1 hi with hm | hm
  · exact rnd_2.2 (.inl ⟨i, hm, hy⟩)
  · exact rnd_2.2 (.inr (h i hm y hy))
theorem invA_rnds (h : InvA ow s) : ∀ n, InvA ow (rnds c tol ow n s)
  | 0 => h
  | n + 1 => invA_rnd (invA_rnds h n)

theorem trig_mono {th th' : Sy → Bool} (h : ∀ y, th y = true → th' y = true) (ht : tol ≤ tol') {o : List Sy} (hg : trig c th tol o = true) : trig c th' tol' o = true := by
  unfold trig trigs at *
  simp only [Bool.or_eq_true, List.any_eq_true, Bool.and_eq_true, decide_eq_true_eq] at *
  rcases hg with hg | ⟨y, hy, h1, h2⟩
  · exact .inl hg
  · exact .inr ⟨y, hy, h y h1, Nat.le_trans h2 (Nat.mul_le_mul_right _ ht)⟩

theorem rnd_mono (hi : InvA ow s') (h : LeS s s') (ht : tol ≤ tol') : LeS (rnd c tol ow s) (rnd c tol' ow s') := by
  have key : ∀ i, i ∈ more c tol ow s → i ∈ more c tol' ow s' ∨ s'.1 i = true := fun i hm => by
    obtain ⟨h1, h2, h3⟩ := mem_more.1 hm
    cases hb : s'.1 i with
    | true => exact .inr rfl
    | false => exact .inl (mem_more.2 ⟨h1, hb, trig_mono h.2 ht h3⟩)
  refine ⟨fun i hi' => ?_, fun y hy => ?_⟩
  · rcases rnd_1.1 hi' with hm | hm
    · exact rnd_1.2 (key i hm)
    · exact rnd_1.2 (.inr (h.1 i hm))
  · rcases rnd_2.1 hy with ⟨i, hm, hyy⟩ | hm
    · rcases key i hm with hk | hk
      · exact rnd_2.2 (.inl ⟨i, hk, hyy⟩)
      · exact rnd_2.2 (.inr (hi i hk y hyy))
    · exact rnd_2.2 (.inr (h.2 y hm))
theorem rnds_mono (hi : InvA ow s) (ht : tol ≤ tol') : ∀ n, LeS (rnds c tol ow n s) (rnds c tol' ow n s)
  | 0 => LeS.refl _
  | n + 1 => rnd_mono (invA_rnds hi n) (rnds_mono hi ht n) ht
theorem rnds_more (n : Nat) : ∀ k, LeS (rnds c tol ow n s) (rnds c tol ow (n + k) s)
  | 0 => LeS.refl _
  | k + 1 => (rnds_more n k).trans le_rnd
theorem rnds_top (n : Nat) : LeS (rnds c tol ow n s) (rnds c tol ow (ow.length + 1) s) := by
  by_cases hn : n ≤ ow.length + 1
  · have := rnds_more (c := c) (tol := tol) (ow := ow) (s := s) n (ow.length + 1 - n)
    rwa [Nat.add_sub_cancel' hn] at this
  · have ⟨k, hk, hk2⟩ : ∃ k, k < ow.length + 1 ∧ more c tol ow (rnds c tol ow k s) = [] := by
      apply Classical.byContradiction
      intro hno
      have h1 := many_rnds (c := c) (tol := tol) (ow := ow) (s := s) (ow.length + 1) (fun k hk e => hno ⟨k, hk, e⟩)
      have h2 := many_le ow.length (rnds c tol ow (ow.length + 1) s).1
      omega
    have h1 := rnds_fix hk2 (n - k)
    have h2 := rnds_fix hk2 (ow.length + 1 - k)
    rw [Nat.add_sub_cancel' (by omega)] at h1 h2
    rw [h1, h2]
    exact LeS.refl _
end

theorem ows_len (l : List En) : (ows l).length = l.length := by simp [ows]
theorem ows_get (l : List En) {i : Nat} (h : i < l.length) : (ows l).getD i [] = own l[i] := by simp [ows, h]
theorem ows_none (l : List En) {i : Nat} (h : ¬ i < l.length) : (ows l).getD i [] = [] := by
  rw [List.getD_eq_getElem?_getD, List.getElem?_eq_none (by rw [ows_len]; omega)]; rfl
theorem start_1 (l : List En) {i : Nat} : (start l).1 i = true ↔ ∃ h : i < l.length, isGoal l[i].role = true := by
  unfold start
  by_cases h : i < l.length
  · simp [h]
  · simp [h]
theorem start_2 (l : List En) {y : Sy} : (start l).2 y = true ↔ ∃ x ∈ l, isGoal x.role = true ∧ hasSy (own x) y = true := by
  unfold start
  simp only [List.any_eq_true, Bool.and_eq_true]
theorem invA_start (l : List En) : InvA (ows l) (start l) := fun i hi y hy => by
  obtain ⟨h, hg⟩ := (start_1 l).1 hi
  rw [ows_get l h] at hy
  exact (start_2 l).2 ⟨_, List.getElem_mem h, hg, hy⟩

theorem mem_picked {l : List En} {tol dep i : Nat} : i ∈ picked l tol dep ↔ i < l.length ∧ (allIn l tol = true ∨ (final l tol dep).1 i = true) := by
  unfold picked
  rw [List.mem_filter, List.mem_range, Bool.or_eq_true]

theorem final_mono {l : List En} {tol tol' dep dep' : Nat} (ht : tol ≤ tol') (hd : dep' = 0 ∨ (dep ≠ 0 ∧ dep ≤ dep')) : LeS (final l tol dep) (final l tol' dep') := by
  unfold final
  refine (rnds_mono (invA_start l) ht _).trans ?_
  by_cases h0 : dep' = 0
  · have e : nrounds l dep' = (ows l).length + 1 := by unfold nrounds; rw [if_pos h0, ows_len]
    rw [e]
    exact rnds_top _
  · rcases hd with hd | ⟨h1, h2⟩
    · exact absurd hd h0
    · unfold nrounds
      rw [if_neg h1, if_neg h0]
      have := rnds_more (c := common l) (tol := tol') (ow := ows l) (s := start l) dep (dep' - dep)
      rwa [Nat.add_sub_cancel' h2] at this

/-- With a greater tolerance, and a greater depth, no fewer are chosen. -/
theorem picked_mono {l : List En} {tol tol' dep dep' : Nat} (ht : tol' = 0 ∨ (0 < tol ∧ tol ≤ tol')) (hd : tol' = 0 ∨ dep' = 0 ∨ (dep ≠ 0 ∧ dep ≤ dep')) {i : Nat} (h : i ∈ picked l tol dep) : i ∈ picked l tol' dep' := by
  obtain ⟨hlt, h⟩ := mem_picked.1 h
  refine mem_picked.2 ⟨hlt, ?_⟩
  by_cases h0 : tol' = 0
  · exact .inl (by simp [allIn, h0])
  · obtain ⟨h1, h2⟩ : 0 < tol ∧ tol ≤ tol' := by rcases ht with ht | ht; exact absurd ht h0; exact ht
    rcases h with h | h
    · refine .inl ?_
      unfold allIn at h ⊢
      simp only [Bool.or_eq_true, decide_eq_true_eq] at h ⊢
      rcases h with h | h
      · omega
      · exact .inr h
    · exact .inr ((final_mono h2 (by rcases hd with hd | hd; exact absurd hd h0; exact hd)).1 i h)

/-- Goals are always chosen. -/
theorem goal_picked {l : List En} {tol dep i : Nat} (h : i < l.length) (hg : isGoal l[i].role = true) : i ∈ picked l tol dep := by
  refine mem_picked.2 ⟨h, .inr ?_⟩
  have := rnds_more (c := common l) (tol := tol) (ow := ows l) (s := start l) 0 (nrounds l dep)
  rw [Nat.zero_add] at this
  exact this.1 i ((start_1 l).2 ⟨h, hg⟩)

/-! ## The order does not matter -/

/-- Begun at number t. -/
def rot {α : Type} (l : List α) (t : Nat) : List α := l.drop t ++ l.take t
theorem rot_len {α : Type} (l : List α) (t : Nat) : (rot l t).length = l.length := by simp [rot]; omega
theorem rot_get {α : Type} (l : List α) (t i : Nat) (ht : t < l.length) (h : i < l.length) : (rot l t)[i]'(by rw [rot_len]; exact h) = l[(i + t) % l.length]'(Nat.mod_lt _ (by omega)) := by
  unfold rot
  by_cases h1 : i < l.length - t
  · rw [List.getElem_append_left (by simpa using h1), List.getElem_drop]
    congr 1
    rw [Nat.mod_eq_of_lt (by omega)]; omega
  · rw [List.getElem_append_right (by simp; omega), List.getElem_take]
    congr 1
    have : i + t = (i + t - l.length) + l.length := by omega
    rw [this, Nat.add_mod_right, Nat.mod_eq_of_lt (by omega)]
    simp; omega
theorem rot_countP {α : Type} (p : α → Bool) (l : List α) (t : Nat) : (rot l t).countP p = l.countP p := by
  unfold rot
  conv => rhs; rw [← List.take_append_drop t l]
  rw [List.countP_append, List.countP_append]; omega
theorem rot_any {α : Type} (p : α → Bool) (l : List α) (t : Nat) : (rot l t).any p = l.any p := by
  unfold rot
  conv => rhs; rw [← List.take_append_drop t l]
  rw [List.any_append, List.any_append, Bool.or_comm]

section
variable {l : List En} {t : Nat}

theorem common_rot : common (rot l t) = common l := funext fun _ => rot_countP _ _ _
/-- Where number i came from. -/
def frm (l : List En) (t i : Nat) : Nat := (i + t) % l.length
theorem frm_lt (ht : t < l.length) (i : Nat) : frm l t i < l.length := Nat.mod_lt _ (by omega)
theorem frm_back (ht : t < l.length) {j : Nat} (hj : j < l.length) : ∃ i, i < l.length ∧ frm l t i = j := by
  refine ⟨(j + (l.length - t)) % l.length, Nat.mod_lt _ (by omega), ?_⟩
  unfold frm
  rw [Nat.mod_add_mod, show j + (l.length - t) + t = j + l.length by omega, Nat.add_mod_right, Nat.mod_eq_of_lt hj]
theorem ows_rot (ht : t < l.length) {i : Nat} (h : i < l.length) : (ows (rot l t)).getD i [] = (ows l).getD (frm l t i) [] := by
  rw [ows_get _ (by rw [rot_len]; exact h), ows_get _ (frm_lt ht i)]
  exact congrArg own (rot_get l t i ht h)

def SimS (l : List En) (t : Nat) (a b : ChS) : Prop := (∀ i, i < l.length → a.1 i = b.1 (frm l t i)) ∧ a.2 = b.2

theorem sim_start (ht : t < l.length) : SimS l t (start (rot l t)) (start l) := by
  refine ⟨fun i hi => ?_, funext fun y => ?_⟩
  · rw [Bool.eq_iff_iff, start_1, start_1]
    have hi' : i < (rot l t).length := by rw [rot_len]; exact hi
    have e := rot_get l t i ht hi
    constructor
    · rintro ⟨h, hg⟩
      exact ⟨frm_lt ht i, by rw [e] at hg; exact hg⟩
    · rintro ⟨h, hg⟩
      exact ⟨hi', by rw [e]; exact hg⟩
  · exact rot_any _ _ _
theorem sim_more {c : Sy → Nat} {tol : Nat} {a b : ChS} (ht : t < l.length) (h : SimS l t a b) {i : Nat} (hi : i < l.length) : i ∈ more c tol (ows (rot l t)) a ↔ frm l t i ∈ more c tol (ows l) b := by
  rw [mem_more, mem_more, h.1 i hi, h.2, ows_rot ht hi, ows_len, ows_len, rot_len]
  simp only [hi, frm_lt ht i, true_and]
theorem sim_rnd {c : Sy → Nat} {tol : Nat} {a b : ChS} (ht : t < l.length) (h : SimS l t a b) : SimS l t (rnd c tol (ows (rot l t)) a) (rnd c tol (ows l) b) := by
  refine ⟨fun i hi => ?_, funext fun y => ?_⟩
  · rw [Bool.eq_iff_iff, rnd_1, rnd_1, sim_more ht h hi, h.1 i hi]
  · rw [Bool.eq_iff_iff, rnd_2, rnd_2, h.2]
    have key : (∃ i ∈ more c tol (ows (rot l t)) a, hasSy ((ows (rot l t)).getD i []) y = true) ↔ ∃ i ∈ more c tol (ows l) b, hasSy ((ows l).getD i []) y = true := by
      constructor
      · rintro ⟨i, hm, hy⟩
        have hi : i < l.length := by have := (mem_more.1 hm).1; rwa [ows_len, rot_len] at this
        exact ⟨_, (sim_more ht h hi).1 hm, by rw [← ows_rot ht hi]; exact hy⟩
      · rintro ⟨j, hm, hy⟩
        have hj : j < l.length := by have := (mem_more.1 hm).1; rwa [ows_len] at this
        obtain ⟨i, hi, rfl⟩ := frm_back ht hj
        exact ⟨i, (sim_more ht h hi).2 hm, by rw [ows_rot ht hi]; exact hy⟩
    rw [key]
theorem sim_rnds {c : Sy → Nat} {tol : Nat} {a b : ChS} (ht : t < l.length) (h : SimS l t a b) : ∀ n, SimS l t (rnds c tol (ows (rot l t)) n a) (rnds c tol (ows l) n b)
  | 0 => h
  | n + 1 => sim_rnd ht (sim_rnds ht h n)
theorem sim_final (tol dep : Nat) (ht : t < l.length) : SimS l t (final (rot l t) tol dep) (final l tol dep) := by
  unfold final
  rw [common_rot]
  have : nrounds (rot l t) dep = nrounds l dep := by unfold nrounds; rw [rot_len]
  rw [this]
  exact sim_rnds ht (sim_start ht) _
theorem allIn_rot (tol : Nat) : allIn (rot l t) tol = allIn l tol := by unfold allIn; rw [rot_any]

theorem picked_rot {tol dep i : Nat} (ht : t < l.length) (h : i ∈ picked (rot l t) tol dep) : frm l t i ∈ picked l tol dep := by
  obtain ⟨h1, h2⟩ := mem_picked.1 h
  rw [rot_len] at h1
  rw [allIn_rot, (sim_final tol dep ht).1 i h1] at h2
  exact mem_picked.2 ⟨frm_lt ht i, h2⟩
theorem rot_range (ht : t < l.length) : (List.range l.length).map (frm l t) = rot (List.range l.length) t := by
  refine List.ext_getElem (by rw [rot_len]; simp) fun i h1 h2 => ?_
  have hi : i < l.length := by simpa using h1
  rw [rot_get (List.range l.length) t i (by simpa using ht) (by simpa using hi)]
  simp [frm]
theorem picked_rot_len (tol dep : Nat) (ht : t < l.length) : (picked (rot l t) tol dep).length = (picked l tol dep).length := by
  unfold picked
  rw [← List.countP_eq_length_filter, ← List.countP_eq_length_filter, rot_len, allIn_rot]
  rw [← rot_countP (fun i => allIn l tol || (final l tol dep).1 i) (List.range l.length) t, ← rot_range ht, List.countP_map]
  refine List.countP_congr fun i hi => ?_
  rw [List.mem_range] at hi
  simp only [Function.comp]
  rw [(sim_final tol dep ht).1 i hi]
end

/-! ## What is chosen speaks of something that is chosen -/
section
variable {l : List En}

/-- What is there is an own symbol of something chosen. -/
def InvB (l : List En) (s : ChS) : Prop := ∀ y, s.2 y = true → ∃ j, j < l.length ∧ s.1 j = true ∧ hasSy ((ows l).getD j []) y = true
/-- What is chosen is a goal, or speaks of nothing, or of something that another chosen one speaks of. -/
def Speak (l : List En) (s : ChS) : Prop := ∀ i (h : i < l.length), s.1 i = true → isGoal l[i].role = true ∨ own l[i] = [] ∨ ∃ j, ∃ h' : j < l.length, j ≠ i ∧ s.1 j = true ∧ ∃ y, hasSy (own l[i]) y = true ∧ hasSy (own l[j]) y = true

theorem invB_start : InvB l (start l) := fun y hy => by
  obtain ⟨x, hx, hg, hh⟩ := (start_2 l).1 hy
  obtain ⟨i, hi, rfl⟩ := List.getElem_of_mem hx
  exact ⟨i, hi, (start_1 l).2 ⟨hi, hg⟩, by rw [ows_get l hi]; exact hh⟩
theorem invB_rnd {c : Sy → Nat} {tol : Nat} {s : ChS} (h : InvB l s) : InvB l (rnd c tol (ows l) s) := fun y hy => by
  rcases rnd_2.1 hy with ⟨i, hm, hh⟩ | hy
  · exact ⟨i, by have := (mem_more.1 hm).1; rwa [ows_len] at this, rnd_1.2 (.inl hm), hh⟩
  · obtain ⟨j, h1, h2, h3⟩ := h y hy
    exact ⟨j, h1, rnd_1.2 (.inr h2), h3⟩
theorem speak_start : Speak l (start l) := fun i h hi => by
  obtain ⟨_, hg⟩ := (start_1 l).1 hi
  exact .inl hg
theorem speak_rnd {c : Sy → Nat} {tol : Nat} {s : ChS} (hB : InvB l s) (h : Speak l s) : Speak l (rnd c tol (ows l) s) := fun i hi hs => by
  rcases rnd_1.1 hs with hm | hs
  · obtain ⟨_, h2, h3⟩ := mem_more.1 hm
    rw [ows_get l hi] at h3
    unfold trig trigs at h3
    simp only [Bool.or_eq_true, List.any_eq_true, Bool.and_eq_true, decide_eq_true_eq, List.isEmpty_iff] at h3
    rcases h3 with h3 | ⟨y, hy, hth, _⟩
    · exact .inr (.inl h3)
    · obtain ⟨j, hj, hjs, hjy⟩ := hB y hth
      rw [ows_get l hj] at hjy
      refine .inr (.inr ⟨j, hj, fun e => ?_, rnd_1.2 (.inr hjs), y, (hasSy_iff _ _).2 hy, hjy⟩)
      subst e
      rw [h2] at hjs
      cases hjs
  · rcases h i hi hs with h1 | h1 | ⟨j, hj, hne, hjs, y, h1, h2⟩
    · exact .inl h1
    · exact .inr (.inl h1)
    · exact .inr (.inr ⟨j, hj, hne, rnd_1.2 (.inr hjs), y, h1, h2⟩)
theorem speak_rnds {c : Sy → Nat} {tol : Nat} : ∀ n, InvB l (rnds c tol (ows l) n (start l)) ∧ Speak l (rnds c tol (ows l) n (start l))
  | 0 => ⟨invB_start, speak_start⟩
  | n + 1 => ⟨invB_rnd (speak_rnds n).1, speak_rnd (speak_rnds n).1 (speak_rnds n).2⟩
theorem final_speaks (tol dep : Nat) : Speak l (final l tol dep) := (speak_rnds _).2

theorem picked_speaks {tol dep i : Nat} (ha : allIn l tol = false) (hi : i ∈ picked l tol dep) (h : i < l.length) (hg : isGoal l[i].role = false) :
    own l[i] = [] ∨ ∃ j, ∃ h' : j < l.length, j ≠ i ∧ j ∈ picked l tol dep ∧ ∃ y, hasSy (own l[i]) y = true ∧ hasSy (own l[j]) y = true := by
  obtain ⟨_, h2⟩ := mem_picked.1 hi
  rcases h2 with h2 | h2
  · rw [ha] at h2; cases h2
  · rcases final_speaks tol dep i h h2 with h3 | h3 | ⟨j, hj, hne, hjs, y, h4, h5⟩
    · rw [hg] at h3; cases h3
    · exact .inl h3
    · exact .inr ⟨j, hj, hne, mem_picked.2 ⟨hj, .inr hjs⟩, y, h4, h5⟩
end

end Go.Proofs.Ytikgjappablbhaa
