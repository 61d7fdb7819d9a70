/-
  Tokens that are written one behind the other are cut into the same tokens: in plain Lean.
-/
import Derived.Test.YtgmoneimfnackaaTokR
namespace Go.Proofs.Ytgmoneimfnackaa
open Go.RowKit

/-- What stands between. -/
def betw : List (List UInt8) := [[32], [10], [32, 37, 32, 97, 32, 39, 32, 34, 10], [47, 42, 32, 39, 32, 42, 47], [9, 13, 32]]

theorem skip_blank {s : ByteArray} {i : Nat} {c : UInt8} {r : List UInt8} (hd : (bts s).drop i = c :: r) (hb : isBlank c.toNat = true) : lex s i = lex s (i + 1) ∧ (bts s).drop (i + 1) = r := by
  obtain ⟨h1, h2⟩ := first_of hd
  refine ⟨lex_skip h2 ?_, drop_more (x := [c]) hd⟩
  unfold stepAt
  rw [h1, if_pos hb]
theorem skip_rmk {s : ByteArray} {i j : Nat} {c : UInt8} {r : List UInt8} (hd : (bts s).drop i = c :: r) (hb : isBlank c.toNat = false) (hr : rmk (bts s) i = j) (hj : j ≠ i) : lex s i = lex s j := by
  obtain ⟨h1, h2⟩ := first_of hd
  refine lex_skip h2 ?_
  unfold stepAt
  rw [h1, if_neg (by rw [hb]; decide), if_pos (by rw [hr]; exact hj), hr]

theorem skip_betw {s : ByteArray} {i : Nat} {b r : List UInt8} (hb : b ∈ betw) (hd : (bts s).drop i = b ++ r) : lex s i = lex s (i + b.length) := by
  simp only [betw, List.mem_cons, List.not_mem_nil, or_false] at hb
  rcases hb with rfl | rfl | rfl | rfl | rfl
  · exact (skip_blank hd rfl).1
  · exact (skip_blank hd rfl).1
  · obtain ⟨h1, h2⟩ := skip_blank hd rfl
    have h3 : rmk (bts s) (i + 1) = i + 1 + 7 := by
      unfold rmk
      rw [h2]
      rfl
    have h4 : (bts s).drop (i + 1 + 7) = 10 :: r := drop_more (x := [37, 32, 97, 32, 39, 32, 34]) h2
    rw [h1, skip_rmk h2 rfl h3 (by omega), (skip_blank h4 rfl).1]
    rfl
  · have h3 : rmk (bts s) i = i + 7 := by
      unfold rmk
      rw [hd]
      rfl
    rw [skip_rmk hd rfl h3 (by omega)]
    rfl
  · obtain ⟨h1, h2⟩ := skip_blank hd rfl
    obtain ⟨h3, h4⟩ := skip_blank h2 rfl
    rw [h1, h3, (skip_blank h4 rfl).1]
    rfl
theorem betw_sep {b r : List UInt8} (hb : b ∈ betw) : Sep (b ++ r) := by
  simp only [betw, List.mem_cons, List.not_mem_nil, or_false] at hb
  rcases hb with rfl | rfl | rfl | rfl | rfl
  all_goals exact .inr ⟨_, _, rfl, by decide⟩

/-- What is written: before each token something. -/
def glue : List (List UInt8 × Tk) → List UInt8
  | [] => []
  | p :: P => p.1 ++ (wri p.2.kind (bts p.2.text) ++ glue P)
theorem glue_snoc (P : List (List UInt8 × Tk)) (p : List UInt8 × Tk) : glue (P ++ [p]) = glue P ++ (p.1 ++ wri p.2.kind (bts p.2.text)) := by
  induction P with
  | nil => simp [glue]
  | cons q P ih => simp [glue, ih, List.append_assoc]
/-- A token that can be written again. -/
def GoodTk (t : Tk) : Prop := IsTok t.kind (bts t.text) ∧ (t.kind ≠ 6 → t.text.size ≤ 40)

theorem glue_sep : ∀ {P : List (List UInt8 × Tk)} {b : List UInt8}, (∀ p ∈ P, p.1 ∈ betw) → b ∈ betw → Sep (glue P ++ b)
  | [], b, _, hb => by have := betw_sep (r := []) hb; rwa [List.append_nil] at this
  | p :: P, b, h, _ => by
    unfold glue
    rw [List.append_assoc]
    exact betw_sep (h p (List.mem_cons_self ..))

theorem relex {s : ByteArray} : ∀ (P : List (List UInt8 × Tk)) (i : Nat) (b : List UInt8), i ≤ s.size → (bts s).drop i = glue P ++ b → b ∈ betw → (∀ p ∈ P, p.1 ∈ betw ∧ GoodTk p.2) →
    ∃ L, lex s i = (L ++ [endT s], none) ∧ L.map (fun t => (t.kind, t.text)) = P.map (fun p => (p.2.kind, p.2.text))
  | [], i, b, hi, hd, hb, _ => by
    have hd' : (bts s).drop i = b ++ [] := by rw [hd]; simp [glue]
    have hl := len_of hd' (by rw [bts_len]; exact hi)
    rw [bts_len] at hl
    refine ⟨[], ?_, rfl⟩
    rw [skip_betw hb hd', lex_end (by rw [hl]; simp)]
    rfl
  | p :: P, i, b, hi, hd, hb, hall => by
    obtain ⟨hp1, hp2⟩ := hall p (List.mem_cons_self ..)
    have hd1 : (bts s).drop i = p.1 ++ (wri p.2.kind (bts p.2.text) ++ (glue P ++ b)) := by rw [hd]; simp [glue]
    have hd2 := drop_more hd1
    have hd3 := drop_more hd2
    have hl := len_of hd1 (by rw [bts_len]; exact hi)
    rw [bts_len] at hl
    simp only [List.length_append] at hl
    have hst := step_of hd2 hp2.1 (glue_sep (fun q hq => (hall q (List.mem_cons_of_mem _ hq)).1) hb) (by rw [bts_len]; exact hp2.2)
    rw [mk_bts] at hst
    have hw : 0 < (wri p.2.kind (bts p.2.text)).length := by
      unfold wri
      split
      · simp
      · rcases hp2.1 with ⟨_, c, t, h, _⟩ | ⟨_, c, t, h, _⟩ | ⟨_, c, t, h, _⟩ | ⟨_, c, t, h, _⟩ | ⟨_, h, _⟩ | ⟨_, h⟩
        · rw [h]; simp
        · rw [h]; simp
        · rw [h]; simp
        · rw [h]; simp
        · exact List.length_pos_iff.2 h
        · simp only [signs20, signsL, singles, List.map_cons, List.map_nil, List.cons_append, List.nil_append, List.mem_cons, List.not_mem_nil, or_false] at h
          rcases h with h | h | h | h | h | h | h | h | h | h | h | h | h | h | h | h | h | h | h | h <;> rw [h] <;> decide
    obtain ⟨L, hL1, hL2⟩ := relex P _ b (by omega) hd3 hb (fun q hq => hall q (List.mem_cons_of_mem _ hq))
    refine ⟨⟨p.2.kind, p.2.text, i + p.1.length⟩ :: L, ?_, by simp [hL2]⟩
    rw [skip_betw hp1 hd1, lex_tok (by omega) hst, hL1]
    rfl

/-- What was cut can be written again. -/
theorem lexF_good (s : ByteArray) : ∀ (n i : Nat) (L : List Tk), i ≤ s.size → s.size + 1 - i ≤ n → lexF s n i = (L, none) → ∃ T, L = T ++ [endT s] ∧ ∀ t ∈ T, GoodTk t ∧ t.text.size ≤ s.size
  | 0, i, L, hi, hn, _ => by omega
  | n + 1, i, L, hi, hn, h => by
    unfold lexF at h
    by_cases hl : s.size ≤ i
    · rw [if_pos hl] at h
      injection h with h _
      exact ⟨[], h.symm, by simp⟩
    · rw [if_neg hl] at h
      cases hst : stepAt s i with
      | skip j =>
        rw [hst] at h
        have := step_skip (by omega) hst
        exact lexF_good s n j L this.2 (by omega) h
      | fault e => rw [hst] at h; injection h with _ h; cases h
      | tok t j =>
        rw [hst] at h
        have hj := step_tok (by omega) hst
        injection h with h1 h2
        obtain ⟨T, hT1, hT2⟩ := lexF_good s n j (lexF s n j).1 hj.2.1 (by omega) (by rw [← h2])
        obtain ⟨k1, k2, k3⟩ := tok_is (by omega) hst
        refine ⟨t :: T, by rw [← h1, hT1]; rfl, fun u hu => ?_⟩
        rcases List.mem_cons.1 hu with rfl | hu
        · exact ⟨⟨k1, k2⟩, k3⟩
        · exact hT2 u hu

theorem step_err {s : ByteArray} {i e : Nat} (h : stepAt s i = .fault e) : e ≠ 0 := by
  unfold stepAt at h
  split at h
  · cases h
  · split at h
    · cases h
    · split at h
      · injection h with h; omega
      · split at h
        · injection h with h; omega
        · cases h
theorem lexF_err (s : ByteArray) : ∀ (n i a e : Nat), (lexF s n i).2 = some (a, e) → e ≠ 0
  | 0, i, a, e, h => by unfold lexF at h; cases h
  | n + 1, i, a, e, h => by
    unfold lexF at h
    by_cases hl : s.size ≤ i
    · rw [if_pos hl] at h; cases h
    · rw [if_neg hl] at h
      cases hst : stepAt s i with
      | skip j => rw [hst] at h; exact lexF_err s n j a e h
      | fault e2 =>
        rw [hst] at h
        injection h with h
        injection h with _ h
        subst h
        exact step_err hst
      | tok t j => rw [hst] at h; exact lexF_err s n j a e h

theorem cut_good {s : ByteArray} {L : List Tk} {a : Nat} (h : cutR s = (L, a, 0)) : s.size ≤ 8000 ∧ ∃ T, L = T ++ [endT s] ∧ ∀ t ∈ T, GoodTk t ∧ t.text.size ≤ s.size := by
  unfold cutR at h
  by_cases hs : 8000 < s.size
  · rw [if_pos hs] at h
    injection h with _ h
    injection h with _ h
    cases h
  · rw [if_neg hs] at h
    refine ⟨by omega, ?_⟩
    cases h2 : (lex s 0).2 with
    | none =>
      rw [h2] at h
      injection h with h _
      exact lexF_good s _ 0 L (Nat.zero_le _) (Nat.le_refl _) (Prod.ext h h2)
    | some p =>
      exfalso
      obtain ⟨a', e⟩ := p
      rw [h2] at h
      injection h with _ h
      injection h with _ h
      subst h
      exact lexF_err s _ 0 _ _ h2 rfl

/-- THE LAW. -/
theorem again_cut {s out : ByteArray} {T : List Tk} {P : List (List UInt8 × Tk)} (hT : ∀ t ∈ T, GoodTk t) (hP : P.map (·.2) = T ++ [endT s]) (hb : ∀ p ∈ P, p.1 ∈ betw) (ho : bts out = glue P) (hz : out.size ≤ 8000) :
    ∃ M, cutR out = (M, 0, 0) ∧ M.length = (T ++ [endT s]).length ∧ ∀ k (h : k < M.length) (h' : k < (T ++ [endT s]).length), M[k].kind = (T ++ [endT s])[k].kind ∧ M[k].text = (T ++ [endT s])[k].text := by
  obtain ⟨P', p, rfl⟩ : ∃ P' p, P = P' ++ [p] := by
    rcases List.eq_nil_or_concat P with rfl | ⟨P', p, rfl⟩
    · simp at hP
    · exact ⟨P', p, by simp⟩
  rw [List.map_append] at hP
  obtain ⟨h1, h2⟩ := List.append_inj' hP rfl
  simp only [List.map_cons, List.map_nil, List.cons.injEq, and_true] at h2
  have hg : (bts out).drop 0 = glue P' ++ p.1 := by
    rw [List.drop_zero, ho, glue_snoc, h2]
    have : wri (endT s).kind (bts (endT s).text) = [] := rfl
    rw [this, List.append_nil]
  obtain ⟨L, hL1, hL2⟩ := relex P' 0 p.1 (Nat.zero_le _) hg (hb p (by simp)) (fun q hq => ⟨hb q (by simp [hq]), hT q.2 (by rw [← h1]; exact List.mem_map.2 ⟨q, hq, rfl⟩)⟩)
  have hmap : (L ++ [endT out]).map (fun t => (t.kind, t.text)) = (T ++ [endT s]).map (fun t => (t.kind, t.text)) := by
    rw [List.map_append, List.map_append, hL2, ← h1, List.map_map]
    rfl
  refine ⟨L ++ [endT out], ?_, by have := congrArg List.length hmap; simpa using this, fun k h h' => ?_⟩
  · unfold cutR
    rw [if_neg (by omega), hL1]
  · have h3 : ((L ++ [endT out]).map (fun t => (t.kind, t.text)))[k]? = ((T ++ [endT s]).map (fun t => (t.kind, t.text)))[k]? := by rw [hmap]
    rw [List.getElem?_map, List.getElem?_map, List.getElem?_eq_getElem h, List.getElem?_eq_getElem h'] at h3
    simp only [Option.map_some, Option.some.injEq, Prod.mk.injEq] at h3
    exact h3

end Go.Proofs.Ytgmoneimfnackaa
