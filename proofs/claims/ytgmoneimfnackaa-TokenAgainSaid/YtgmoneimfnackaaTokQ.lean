/-
  A token that is written again, with a blank or a remark behind it, is cut into itself: in plain Lean.
-/
import Derived.Test.YtgmoneimfnackaaTokP
namespace Go.Proofs.Ytgmoneimfnackaa
open Go.RowKit

/-! ## Lists of bytes -/
theorem bts_inj {a b : ByteArray} (h : bts a = bts b) : a = b := by
  unfold bts at h
  cases a; cases b
  simp only at h
  rw [Array.toList_inj.1 h]
theorem getD_of {l x r : List UInt8} {i : Nat} (h : l.drop i = x ++ r) (j : Nat) : l.getD (i + j) 0 = (x ++ r).getD j 0 := by
  rw [← h, getD_of_drop]
theorem len_of {l x : List UInt8} {i : Nat} (h : l.drop i = x) (hi : i ≤ l.length) : l.length = i + x.length := by
  rw [← h, List.length_drop]; omega
theorem drop_more {l x r : List UInt8} {i : Nat} (h : l.drop i = x ++ r) : l.drop (i + x.length) = r := by
  rw [← List.drop_drop, h, List.drop_left]
theorem lt_of_cons {l : List UInt8} {c : UInt8} {x : List UInt8} {i : Nat} (h : l.drop i = c :: x) : i < l.length := by
  by_cases hi : i < l.length
  · exact hi
  · rw [List.drop_eq_nil_of_le (by omega)] at h; cases h
theorem run_of {p : Nat → Bool} {l y r : List UInt8} {i : Nat} (h : l.drop i = y ++ r) (hy : ∀ b ∈ y, p b.toNat = true) (hr : r = [] ∨ ∃ b t, r = b :: t ∧ p b.toNat = false) : runTo p l i = i + y.length := by
  unfold runTo
  rw [h]
  congr 1
  rw [List.takeWhile_append_of_pos (by simpa using hy)]
  rcases hr with rfl | ⟨b, t, rfl, hb⟩
  · simp
  · rw [List.takeWhile_cons_of_neg (by simp [hb])]; simp
theorem cut_of {s : ByteArray} {x r : List UInt8} {i n : Nat} (h : (bts s).drop i = x ++ r) (hn : n = x.length) : s.extract i (i + n) = ⟨x.toArray⟩ := by
  apply bts_inj
  rw [bts_extract, List.drop_take, h, hn, show i + x.length - i = x.length by omega, List.take_left]
  rfl

/-! ## What is a token -/
def IsTok (k : Nat) (y : List UInt8) : Prop :=
  (k = 1 ∧ ∃ c t, y = c :: t ∧ isSmall c.toNat = true ∧ ∀ b ∈ t, isWord b.toNat = true) ∨
  (k = 2 ∧ ∃ c t, y = c :: t ∧ isGreat c.toNat = true ∧ ∀ b ∈ t, isWord b.toNat = true) ∨
  (k = 5 ∧ ∃ c t, y = c :: t ∧ isDigit c.toNat = true ∧ ∀ b ∈ t, isDigit b.toNat = true) ∨
  (k = 3 ∧ ∃ c t, y = 36 :: c :: t ∧ isSmall c.toNat = true ∧ ∀ b ∈ t, isWord b.toNat = true) ∨
  (k = 4 ∧ y ≠ [] ∧ ∀ b ∈ y, isIn b.toNat = true) ∨
  (k = 6 ∧ y ∈ signs20)
/-- How a token is written. -/
def wri (k : Nat) (y : List UInt8) : List UInt8 := if k = 4 then 39 :: (y ++ [39]) else y
/-- What may stand behind it. -/
def Sep (r : List UInt8) : Prop := r = [] ∨ ∃ b t, r = b :: t ∧ (b = 32 ∨ b = 10 ∨ b = 47 ∨ b = 9)

theorem Sep.not {p : Nat → Bool} {r : List UInt8} (h : Sep r) (h1 : p 32 = false) (h2 : p 10 = false) (h3 : p 47 = false) (h4 : p 9 = false) : r = [] ∨ ∃ b t, r = b :: t ∧ p b.toNat = false := by
  rcases h with h | ⟨b, t, h, rfl | rfl | rfl | rfl⟩
  · exact .inl h
  · exact .inr ⟨_, t, h, h1⟩
  · exact .inr ⟨_, t, h, h2⟩
  · exact .inr ⟨_, t, h, h3⟩
  · exact .inr ⟨_, t, h, h4⟩

theorem sgn_of {y r : List UInt8} (hy : y ∈ signs20) (hs : Sep r) : sgn (y ++ r) = y.length := by
  simp only [signs20, signsL, singles, List.map_cons, List.map_nil, List.cons_append, List.nil_append, List.mem_cons, List.not_mem_nil, or_false] at hy
  rcases hs with rfl | ⟨b, t, rfl, rfl | rfl | rfl | rfl⟩
  all_goals
    rcases hy with rfl | rfl | rfl | rfl | rfl | rfl | rfl | rfl | rfl | rfl | rfl | rfl | rfl | rfl | rfl | rfl | rfl | rfl | rfl | rfl
    all_goals rfl

theorem step_tok_of {s : ByteArray} {i e : Nat} {t : Tk} (h1 : isBlank ((bts s).getD i 0).toNat = false) (h2 : rmk (bts s) i = i) (h3 : oneT s i = (t, e)) (h4 : e ≠ i) (h5 : t.kind ≠ 6 → t.text.size ≤ 40) : stepAt s i = .tok t e := by
  unfold stepAt
  rw [h1, if_neg (by decide), h2, if_neg (by simp), h3]
  simp only []
  rw [if_neg h4, if_neg (by intro h; have := h5 h.1; omega)]

theorem first_of {s : ByteArray} {i : Nat} {c : UInt8} {x : List UInt8} (h : (bts s).drop i = c :: x) : (bts s).getD i 0 = c ∧ i < s.size := by
  have := getD_of (x := c :: x) (r := []) (by rw [List.append_nil]; exact h) 0
  exact ⟨by rw [Nat.add_zero] at this; rw [this]; rfl, by rw [← bts_len]; exact lt_of_cons h⟩
theorem no_rmk {s : ByteArray} {i : Nat} {c : UInt8} {x : List UInt8} (h : (bts s).drop i = c :: x) (h1 : c.toNat ≠ 37) (h2 : c.toNat ≠ 47) : rmk (bts s) i = i := by
  obtain ⟨h3, h4⟩ := first_of h
  refine rmk_no (by rw [bts_len]; exact h4) ?_ (.inr (.inl ?_))
  · rw [h3]; intro e; exact h1 (by rw [e]; rfl)
  · rw [h3]; intro e; exact h2 (by rw [e]; rfl)

theorem small_not {c : Nat} (h : isSmall c = true) : isBlank c = false ∧ c ≠ 37 ∧ c ≠ 47 ∧ isWord c = true := by
  unfold isWord isBlank
  rw [h]
  unfold isSmall at h
  simp at h ⊢
  omega
theorem great_not {c : Nat} (h : isGreat c = true) : isBlank c = false ∧ c ≠ 37 ∧ c ≠ 47 ∧ isWord c = true ∧ isSmall c = false := by
  unfold isWord isBlank
  rw [h]
  unfold isSmall
  unfold isGreat at h
  simp at h ⊢
  omega
theorem digit_not {c : Nat} (h : isDigit c = true) : isBlank c = false ∧ c ≠ 37 ∧ c ≠ 47 ∧ isSmall c = false ∧ isGreat c = false := by
  unfold isDigit at h
  unfold isBlank isSmall isGreat
  simp at h ⊢
  omega

theorem size_mk (y : List UInt8) : (⟨y.toArray⟩ : ByteArray).size = y.length := by simp [ByteArray.size]

/-- A token that is written is cut. -/
theorem step_of {s : ByteArray} {i k : Nat} {y r : List UInt8} (hd : (bts s).drop i = wri k y ++ r) (ht : IsTok k y) (hs : Sep r) (h40 : k ≠ 6 → y.length ≤ 40) :
    stepAt s i = .tok ⟨k, ⟨y.toArray⟩, i⟩ (i + (wri k y).length) := by
  rcases ht with ⟨rfl, c, t, rfl, hc, hw⟩ | ⟨rfl, c, t, rfl, hc, hw⟩ | ⟨rfl, c, t, rfl, hc, hw⟩ | ⟨rfl, c, t, rfl, hc, hw⟩ | ⟨rfl, hne, hw⟩ | ⟨rfl, hy⟩
  · have hd' : (bts s).drop i = (c :: t) ++ r := hd
    obtain ⟨hb, h1, h2, h3⟩ := small_not hc
    obtain ⟨hf, hlt⟩ := first_of hd'
    refine step_tok_of (by rw [hf]; exact hb) (no_rmk hd' h1 h2) ?_ (by simp [wri]) (by simpa [size_mk] using h40)
    have hr := run_of (p := isWord) hd' (by intro b hb; rcases List.mem_cons.1 hb with rfl | hb; exact h3; exact hw b hb) (hs.not rfl rfl rfl rfl)
    unfold oneT
    simp only [hf, hc, if_true, hr]
    rw [cut_of hd' rfl]
    rfl
  · have hd' : (bts s).drop i = (c :: t) ++ r := hd
    obtain ⟨hb, h1, h2, h3, h4⟩ := great_not hc
    obtain ⟨hf, hlt⟩ := first_of hd'
    refine step_tok_of (by rw [hf]; exact hb) (no_rmk hd' h1 h2) ?_ (by simp [wri]) (by simpa [size_mk] using h40)
    have hr := run_of (p := isWord) hd' (by intro b hb; rcases List.mem_cons.1 hb with rfl | hb; exact h3; exact hw b hb) (hs.not rfl rfl rfl rfl)
    unfold oneT
    simp only [hf, hc, h4, if_true, hr, Bool.false_eq_true, if_false]
    rw [cut_of hd' rfl]
    rfl
  · have hd' : (bts s).drop i = (c :: t) ++ r := hd
    obtain ⟨hb, h1, h2, h3, h4⟩ := digit_not hc
    obtain ⟨hf, hlt⟩ := first_of hd'
    refine step_tok_of (by rw [hf]; exact hb) (no_rmk hd' h1 h2) ?_ (by simp [wri]) (by simpa [size_mk] using h40)
    have hr := run_of (p := isDigit) hd' (by intro b hb; rcases List.mem_cons.1 hb with rfl | hb; exact hc; exact hw b hb) (hs.not rfl rfl rfl rfl)
    unfold oneT
    simp only [hf, hc, h3, h4, if_true, hr, Bool.false_eq_true, if_false]
    rw [cut_of hd' rfl]
    rfl
  · have hd' : (bts s).drop i = (36 :: c :: t) ++ r := hd
    obtain ⟨hb, h1, h2, h3⟩ := small_not hc
    obtain ⟨hf, hlt⟩ := first_of hd'
    have hd2 : (bts s).drop (i + 1) = (c :: t) ++ r := drop_more (x := [36]) hd'
    obtain ⟨hf2, hlt2⟩ := first_of hd2
    refine step_tok_of (by rw [hf]; rfl) (no_rmk hd' (by decide) (by decide)) ?_ (by simp [wri]) (by simpa [size_mk] using h40)
    have hr := run_of (p := isWord) hd2 (by intro b hb; rcases List.mem_cons.1 hb with rfl | hb; exact h3; exact hw b hb) (hs.not rfl rfl rfl rfl)
    have hr2 : runTo isWord (bts s) (i + 1) = i + (36 :: c :: t).length := by rw [hr]; simp; omega
    unfold oneT
    simp only [hf, hf2, hc, hlt2, hr2, (show (36 : UInt8).toNat = 36 from rfl), (show isSmall 36 = false from rfl), (show isGreat 36 = false from rfl), (show isDigit 36 = false from rfl), if_true, Bool.false_eq_true, if_false, and_self]
    rw [cut_of hd' rfl]
    rfl
  · have hd' : (bts s).drop i = 39 :: (y ++ (39 :: r)) := by rw [hd]; simp [wri]
    obtain ⟨hf, hlt⟩ := first_of hd'
    have hd2 : (bts s).drop (i + 1) = y ++ (39 :: r) := drop_more (x := [39]) (r := y ++ (39 :: r)) hd'
    have hyl : 0 < y.length := List.length_pos_iff.2 hne
    refine step_tok_of (by rw [hf]; rfl) (no_rmk hd' (by decide) (by decide)) ?_ (by simp [wri]) (by simpa [size_mk] using h40)
    have hr := run_of (p := isIn) hd2 hw (.inr ⟨39, r, rfl, rfl⟩)
    have hlen := len_of hd2 (by rw [bts_len]; omega)
    have hg := getD_of hd2 y.length
    have hq : qtd (bts s) i = i + 1 + y.length + 1 := by
      unfold qtd
      rw [hr, if_neg]
      rintro (h | h | h)
      · omega
      · rw [hlen] at h; simp at h
      · apply h
        rw [hg]
        simp [List.getD_eq_getElem?_getD]
    have hx : s.extract (i + 1) (i + 1 + y.length + 1 - 1) = ⟨y.toArray⟩ := cut_of hd2 rfl
    unfold oneT
    simp only [hf, hq, (show (39 : UInt8).toNat = 39 from rfl), (show isSmall 39 = false from rfl), (show isGreat 39 = false from rfl), (show isDigit 39 = false from rfl), if_true, Bool.false_eq_true, if_false]
    rw [if_neg (by decide), if_pos (by omega), hx]
    simp only [wri, if_true, List.length_cons, List.length_append, List.length_nil]
    congr 1
    omega
  · have hd' : (bts s).drop i = y ++ r := hd
    have hsg := sgn_of hy hs
    have key : ∃ c x, y = c :: x ∧ isBlank c.toNat = false ∧ c.toNat ≠ 37 ∧ c.toNat ≠ 47 ∧ isSmall c.toNat = false ∧ isGreat c.toNat = false ∧ isDigit c.toNat = false ∧ c.toNat ≠ 36 ∧ c.toNat ≠ 39 := by
      simp only [signs20, signsL, singles, List.map_cons, List.map_nil, List.cons_append, List.nil_append, List.mem_cons, List.not_mem_nil, or_false] at hy
      rcases hy with rfl | rfl | rfl | rfl | rfl | rfl | rfl | rfl | rfl | rfl | rfl | rfl | rfl | rfl | rfl | rfl | rfl | rfl | rfl | rfl
      all_goals exact ⟨_, _, rfl, by decide⟩
    obtain ⟨c, x, rfl, k1, k2, k3, k4, k5, k6, k7, k8⟩ := key
    obtain ⟨hf, hlt⟩ := first_of hd'
    refine step_tok_of (by rw [hf]; exact k1) (no_rmk hd' k2 k3) ?_ (by simp [wri]) (by simp)
    unfold oneT
    simp only [hf, k4, k5, k6, Bool.false_eq_true, if_false]
    rw [if_neg k7, if_neg k8, hd', hsg, cut_of hd' rfl]
    rfl

/-! ## What was cut is a token -/
theorem bts_run {p : Nat → Bool} (s : ByteArray) (i : Nat) : bts (s.extract i (runTo p (bts s) i)) = ((bts s).drop i).takeWhile fun b => p b.toNat := by
  rw [bts_extract, List.drop_take]
  unfold runTo
  rw [show i + (List.takeWhile (fun b => p b.toNat) ((bts s).drop i)).length - i = (List.takeWhile (fun b => p b.toNat) ((bts s).drop i)).length by omega]
  exact (List.prefix_iff_eq_take.1 (List.takeWhile_prefix _)).symm
theorem mem_run {p : UInt8 → Bool} : ∀ {l : List UInt8} {b : UInt8}, b ∈ l.takeWhile p → p b = true
  | [], b, h => by simp at h
  | a :: l, b, h => by
    cases hp : p a with
    | true =>
      rw [List.takeWhile_cons_of_pos hp] at h
      rcases List.mem_cons.1 h with rfl | h
      · exact hp
      · exact mem_run h
    | false =>
      rw [List.takeWhile_cons_of_neg (by simp [hp])] at h
      simp at h
theorem drop_at {s : ByteArray} {i : Nat} (hi : i < s.size) : (bts s).drop i = (bts s).getD i 0 :: (bts s).drop (i + 1) := by
  have hi' : i < (bts s).length := by rw [bts_len]; exact hi
  rw [List.getD_eq_getElem?_getD, List.getElem?_eq_getElem hi', Option.getD_some]
  exact List.drop_eq_getElem_cons hi'
theorem sgn_take {l : List UInt8} (h : sgn l ≠ 0) : l.take (sgn l) ∈ signs20 := by
  rw [← sgnR_eq] at h ⊢
  unfold sgnR at h ⊢
  cases hf : signs20.find? (fun x => Lib.hasPrefix l x) with
  | none => rw [hf] at h; exact absurd rfl h
  | some x =>
    have h1 := List.find?_some hf
    have h2 := List.mem_of_find?_eq_some hf
    have h3 := List.prefix_iff_eq_take.1 (List.isPrefixOf_iff_prefix.1 h1)
    rw [← h3]
    exact h2

theorem tok_is {s : ByteArray} {i j : Nat} {t : Tk} (hi : i < s.size) (h : stepAt s i = .tok t j) : IsTok t.kind (bts t.text) ∧ (t.kind ≠ 6 → t.text.size ≤ 40) ∧ t.text.size ≤ s.size := by
  obtain ⟨hij, hjs, rfl, rfl⟩ := step_tok hi h
  have h40 : (oneT s i).1.kind ≠ 6 → (oneT s i).1.text.size ≤ 40 := by
    unfold stepAt at h
    split at h
    · cases h
    · split at h
      · cases h
      · split at h
        · cases h
        · split at h
          · cases h
          · rename_i hn
            intro hk
            have := fun h => hn ⟨hk, h⟩
            omega
  refine ⟨?_, h40, ?_⟩
  · clear h h40 hjs
    have hdr := drop_at hi
    generalize hc : (bts s).getD i 0 = c at hdr
    revert hij
    unfold oneT
    simp only [hc]
    cases h1 : isSmall c.toNat with
    | true =>
      intro _
      simp only [if_true]
      refine .inl ⟨rfl, c, (((bts s).drop (i + 1)).takeWhile fun b => isWord b.toNat), ?_, h1, fun b hb => mem_run (p := fun b => isWord b.toNat) hb⟩
      rw [bts_run, hdr, List.takeWhile_cons_of_pos (p := fun b : UInt8 => isWord b.toNat) (small_not h1).2.2.2]
    | false =>
      simp only [Bool.false_eq_true, if_false]
      cases h2 : isGreat c.toNat with
      | true =>
        intro _
        simp only [if_true]
        refine .inr (.inl ⟨rfl, c, (((bts s).drop (i + 1)).takeWhile fun b => isWord b.toNat), ?_, h2, fun b hb => mem_run (p := fun b => isWord b.toNat) hb⟩)
        rw [bts_run, hdr, List.takeWhile_cons_of_pos (p := fun b : UInt8 => isWord b.toNat) (great_not h2).2.2.2.1]
      | false =>
        simp only [Bool.false_eq_true, if_false]
        cases h3 : isDigit c.toNat with
        | true =>
          intro _
          simp only [if_true]
          refine .inr (.inr (.inl ⟨rfl, c, (((bts s).drop (i + 1)).takeWhile fun b => isDigit b.toNat), ?_, h3, fun b hb => mem_run (p := fun b => isDigit b.toNat) hb⟩))
          rw [bts_run, hdr, List.takeWhile_cons_of_pos (p := fun b : UInt8 => isDigit b.toNat) h3]
        | false =>
          simp only [Bool.false_eq_true, if_false]
          by_cases h4 : c.toNat = 36
          · rw [if_pos h4]
            by_cases h5 : i + 1 < s.size ∧ isSmall ((bts s).getD (i + 1) 0).toNat = true
            · rw [if_pos h5]
              intro _
              have hdr2 := drop_at h5.1
              generalize hc2 : (bts s).getD (i + 1) 0 = c2 at hdr2 h5
              have hc36 : c = 36 := u8_eq (n := 36) h4 (by decide)
              refine .inr (.inr (.inr (.inl ⟨rfl, c2, (((bts s).drop (i + 1 + 1)).takeWhile fun b => isWord b.toNat), ?_, h5.2, fun b hb => mem_run (p := fun b => isWord b.toNat) hb⟩)))
              have hrl : i + 1 ≤ runTo isWord (bts s) (i + 1) := by unfold runTo; omega
              have hr := bts_run (p := isWord) s (i + 1)
              rw [bts_extract, List.drop_take, hdr2, List.takeWhile_cons_of_pos (p := fun b : UInt8 => isWord b.toNat) (small_not h5.2).2.2.2] at hr
              rw [bts_extract, List.drop_take, hdr, hdr2, show runTo isWord (bts s) (i + 1) - i = (runTo isWord (bts s) (i + 1) - (i + 1)) + 1 by omega, List.take_succ_cons, hr, hc36]
            · rw [if_neg h5]
              intro hij
              exact absurd hij (Nat.lt_irrefl _)
          · rw [if_neg h4]
            by_cases h5 : c.toNat = 39
            · rw [if_pos h5]
              intro hij
              simp only at hij
              rw [if_pos hij]
              unfold qtd at hij ⊢
              split at hij
              · exact absurd hij (Nat.lt_irrefl _)
              · rename_i hq
                rw [if_neg hq]
                have hn : runTo isIn (bts s) (i + 1) ≠ i + 1 := fun e => hq (.inl e)
                refine .inr (.inr (.inr (.inr (.inl ⟨rfl, ?_, ?_⟩))))
                · rw [Nat.add_sub_cancel]
                  show bts (s.extract (i + 1) (runTo isIn (bts s) (i + 1))) ≠ []
                  rw [bts_run]
                  intro e
                  unfold runTo at hn
                  rw [e] at hn
                  exact hn rfl
                · rw [Nat.add_sub_cancel]
                  show ∀ b ∈ bts (s.extract (i + 1) (runTo isIn (bts s) (i + 1))), isIn b.toNat = true
                  rw [bts_run]
                  exact fun b hb => mem_run (p := fun b => isIn b.toNat) hb
            · rw [if_neg h5]
              intro hij
              simp only at hij
              refine .inr (.inr (.inr (.inr (.inr ⟨rfl, ?_⟩))))
              show bts (s.extract i (i + sgn ((bts s).drop i))) ∈ signs20
              rw [bts_extract, List.drop_take, show i + sgn ((bts s).drop i) - i = sgn ((bts s).drop i) by omega]
              exact sgn_take (by omega)
  · have hex : ∀ a b, (s.extract a b).size ≤ s.size := fun a b => by simp [ByteArray.size_extract]; omega
    have h0 : (⟨#[]⟩ : ByteArray).size ≤ s.size := Nat.zero_le _
    unfold oneT
    simp only []
    repeat' split
    all_goals first | exact hex _ _ | exact h0

end Go.Proofs.Ytgmoneimfnackaa
