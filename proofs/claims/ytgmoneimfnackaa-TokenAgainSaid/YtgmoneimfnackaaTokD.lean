/-
  Cutting a text into tokens, in plain Lean.
-/
import Derived.Test.YtgmoneimfnackaaTokC
namespace Go.Proofs.Ytgmoneimfnackaa
open Go.RowKit

def isBlank (c : Nat) : Bool := decide (c = 32) || decide (c = 9) || decide (c = 10) || decide (c = 13)

inductive Stp where
  | skip (j : Nat)
  | fault (e : Nat)
  | tok (t : Tk) (j : Nat)

/-- What stands at a place: something to be skipped, a fault, a token. -/
def stepAt (s : ByteArray) (i : Nat) : Stp :=
  if isBlank ((bts s).getD i 0).toNat then .skip (i + 1)
  else if rmk (bts s) i ≠ i then .skip (rmk (bts s) i)
  else if (oneT s i).2 = i then .fault 220
  else if (oneT s i).1.kind ≠ 6 ∧ 40 < (oneT s i).1.text.size then .fault 3
  else .tok (oneT s i).1 (oneT s i).2

def endT (s : ByteArray) : Tk := ⟨7, ⟨#[]⟩, s.size⟩

/-- The tokens from a place on, and the first fault. -/
def lexF (s : ByteArray) : Nat → Nat → List Tk × Option (Nat × Nat)
  | 0, _ => ([], none)
  | n + 1, i =>
    if s.size ≤ i then ([endT s], none)
    else match stepAt s i with
      | .skip j => lexF s n j
      | .fault e => ([], some (i, e))
      | .tok t j => (t :: (lexF s n j).1, (lexF s n j).2)
def lex (s : ByteArray) (i : Nat) : List Tk × Option (Nat × Nat) := lexF s (s.size + 1 - i) i

/-! ## Places go on -/
theorem rmk_le (l : List UInt8) {i : Nat} (hi : i < l.length) : i ≤ rmk l i ∧ rmk l i ≤ l.length := by
  unfold rmk
  split
  · split
    · rename_i h
      obtain ⟨n, hn⟩ : ∃ n : Nat, Lib.indexByte (l.drop i) 10 = n := ⟨(Lib.indexByte (l.drop i) 10).toNat, by omega⟩
      have h1 := (Lib.indexByte_some hn).1
      have h2 := (List.getElem?_eq_some_iff.1 h1).1
      rw [List.length_drop] at h2
      rw [hn]
      simp
      omega
    · omega
  · split
    · rename_i hp
      have hp2 := (List.isPrefixOf_iff_prefix.1 hp).length_le
      rw [List.length_drop] at hp2
      simp at hp2
      split
      · rename_i h
        have h1 := Lib.index_room ((l.drop i).drop 2) [42, 47] h
        rw [List.length_drop, List.length_drop] at h1
        obtain ⟨n, hn⟩ : ∃ n : Nat, Lib.index ((l.drop i).drop 2) [42, 47] = n := ⟨(Lib.index ((l.drop i).drop 2) [42, 47]).toNat, by omega⟩
        rw [hn] at h1 ⊢
        rw [show (([42, 47] : List UInt8).length : Int) = 2 from rfl] at h1
        rw [Int.toNat_natCast]
        omega
      · omega
    · omega
theorem qtd_le (l : List UInt8) {i : Nat} (hi : i < l.length) : i ≤ qtd l i ∧ qtd l i ≤ l.length := by
  have h := runTo_le isIn l (i := i + 1) (by omega)
  unfold qtd
  split
  · omega
  · omega
theorem oneT_le (s : ByteArray) {i : Nat} (hi : i < s.size) : i ≤ (oneT s i).2 ∧ (oneT s i).2 ≤ s.size := by
  have h1 := runTo_le isWord (bts s) (i := i) (by rw [bts_len]; omega)
  have h2 := runTo_le isDigit (bts s) (i := i) (by rw [bts_len]; omega)
  have h3 := runTo_le isWord (bts s) (i := i + 1) (by rw [bts_len]; omega)
  have h4 := qtd_le (bts s) (i := i) (by rw [bts_len]; omega)
  have h5 := sgn_le ((bts s).drop i)
  have h6 : sgn ((bts s).drop i) ≤ s.size - i := by
    rcases h5 with h | h
    · rw [List.length_drop, bts_len] at h; exact h
    · have := congrArg List.length h
      rw [List.length_drop, bts_len] at this
      simp at this
      omega
  rw [bts_len] at h1 h2 h3 h4
  unfold oneT
  simp only []
  split
  · exact h1
  · split
    · exact h1
    · split
      · exact h2
      · split
        · split
          · exact ⟨by simp only []; omega, h3.2⟩
          · exact ⟨Nat.le_refl _, by simp only []; omega⟩
        · split
          · exact h4
          · exact ⟨by simp only []; omega, by simp only []; omega⟩

theorem step_skip {s : ByteArray} {i j : Nat} (hi : i < s.size) (h : stepAt s i = .skip j) : i < j ∧ j ≤ s.size := by
  have h1 := rmk_le (bts s) (i := i) (by rw [bts_len]; omega)
  rw [bts_len] at h1
  unfold stepAt at h
  split at h
  · injection h with h; omega
  · split at h
    · injection h with h; omega
    · split at h
      · cases h
      · split at h <;> cases h
theorem step_tok {s : ByteArray} {i j : Nat} {t : Tk} (hi : i < s.size) (h : stepAt s i = .tok t j) : i < j ∧ j ≤ s.size ∧ t = (oneT s i).1 ∧ j = (oneT s i).2 := by
  have h1 := oneT_le s hi
  unfold stepAt at h
  split at h
  · cases h
  · split at h
    · cases h
    · split at h
      · cases h
      · split at h
        · cases h
        · injection h with h2 h3
          exact ⟨by omega, by omega, h2.symm, h3.symm⟩

theorem lexF_more (s : ByteArray) : ∀ (n m i : Nat), i ≤ s.size → s.size + 1 - i ≤ n → s.size + 1 - i ≤ m → lexF s n i = lexF s m i
  | 0, m, i, hi, hn, _ => by omega
  | n + 1, 0, i, hi, _, hm => by omega
  | n + 1, m + 1, i, hi, hn, hm => by
    unfold lexF
    by_cases hl : s.size ≤ i
    · rw [if_pos hl, if_pos hl]
    · rw [if_neg hl, if_neg hl]
      cases hst : stepAt s i with
      | skip j =>
        have := step_skip (by omega) hst
        exact lexF_more s n m j this.2 (by omega) (by omega)
      | fault e => rfl
      | tok t j =>
        have := step_tok (by omega) hst
        simp only []
        rw [lexF_more s n m j this.2.1 (by omega) (by omega)]

theorem lex_end {s : ByteArray} {i : Nat} (h : i = s.size) : lex s i = ([endT s], none) := by
  subst h
  unfold lex
  rw [show s.size + 1 - s.size = 0 + 1 by omega]
  unfold lexF
  rw [if_pos (Nat.le_refl _)]
theorem lex_skip {s : ByteArray} {i j : Nat} (hi : i < s.size) (h : stepAt s i = .skip j) : lex s i = lex s j := by
  have hj := step_skip hi h
  unfold lex
  rw [show s.size + 1 - i = (s.size - i) + 1 by omega]
  conv => lhs; unfold lexF
  rw [if_neg (by omega), h]
  exact lexF_more s _ _ j hj.2 (by omega) (by omega)
theorem lex_fault {s : ByteArray} {i e : Nat} (hi : i < s.size) (h : stepAt s i = .fault e) : lex s i = ([], some (i, e)) := by
  unfold lex
  rw [show s.size + 1 - i = (s.size - i) + 1 by omega]
  unfold lexF
  rw [if_neg (by omega), h]
theorem lex_tok {s : ByteArray} {i j : Nat} {t : Tk} (hi : i < s.size) (h : stepAt s i = .tok t j) : lex s i = (t :: (lex s j).1, (lex s j).2) := by
  have hj := step_tok hi h
  unfold lex
  rw [show s.size + 1 - i = (s.size - i) + 1 by omega]
  conv => lhs; unfold lexF
  rw [if_neg (by omega), h]
  simp only []
  rw [lexF_more s (s.size - i) (s.size + 1 - j) j hj.2.1 (by omega) (by omega)]

end Go.Proofs.Ytgmoneimfnackaa
