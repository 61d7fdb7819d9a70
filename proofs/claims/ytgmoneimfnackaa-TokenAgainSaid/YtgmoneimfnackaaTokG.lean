/-
  Walks over the document's answer: its bytes, word, remark, quoted.
-/
import Derived.Test.YtgmoneimfnackaaTokF
import Derived.Lib.IndexLaws
namespace Go.Proofs.Ytgmoneimfnackaa
open Go.RowKit

/-! ## Plain laws -/
theorem getD_drop (l : List UInt8) (i k : Nat) : (l.drop i)[k]? = l[i + k]? := List.getElem?_drop
theorem head_drop (l : List UInt8) {i : Nat} (hi : i < l.length) : (l.drop i).head? = some (l.getD i 0) := by
  rw [List.drop_eq_getElem_cons hi, List.head?_cons]
  simp [hi]
theorem get_some (l : List UInt8) {i : Nat} (hi : i < l.length) : l[i]? = some (l.getD i 0) := by simp [hi]
theorem indexByte_at {l : List UInt8} {c : UInt8} {o : Nat} (h : l[o]? = some c) (hn : ∀ k, k < o → l[k]? ≠ some c) : Lib.indexByte l c = o := by
  have hge := Lib.indexByte_ge l c
  by_cases h1 : Lib.indexByte l c = -1
  · exact absurd h (Lib.indexByte_none h1 o)
  · obtain ⟨n, hne⟩ : ∃ n : Nat, Lib.indexByte l c = n := ⟨(Lib.indexByte l c).toNat, by omega⟩
    have h2 := Lib.indexByte_some hne
    rcases Nat.lt_trichotomy n o with hl | rfl | hl
    · exact absurd h2.1 (hn n hl)
    · exact hne
    · exact absurd h (h2.2 o hl)
theorem indexByte_off {l : List UInt8} {c : UInt8} (hn : ∀ k : Nat, l[k]? ≠ some c) : Lib.indexByte l c = -1 := by
  have hge := Lib.indexByte_ge l c
  by_cases h1 : Lib.indexByte l c = -1
  · exact h1
  · obtain ⟨n, hne⟩ : ∃ n : Nat, Lib.indexByte l c = n := ⟨(Lib.indexByte l c).toNat, by omega⟩
    exact absurd (Lib.indexByte_some hne).1 (hn n)
/-- A remark to the line's end. -/
theorem rmk_line {l : List UInt8} {i e : Nat} (hi : i < l.length) (h37 : l.getD i 0 = 37) (hie : i ≤ e) (hel : e ≤ l.length) (hend : e = l.length ∨ l.getD e 0 = 10) (hall : ∀ k, i ≤ k → k < e → l.getD k 0 ≠ 10) : rmk l i = e := by
  unfold rmk
  rw [head_drop l hi, h37, if_pos rfl]
  have hn : ∀ k, k < e - i → (l.drop i)[k]? ≠ some 10 := by
    intro k hk h
    rw [getD_drop, get_some l (by omega)] at h
    injection h with h
    exact hall (i + k) (by omega) (by omega) h
  by_cases hl : e = l.length
  · rw [indexByte_off (fun k h => ?_), if_neg (by omega)]
    · exact hl.symm
    · by_cases hk : k < e - i
      · exact hn k hk h
      · rw [getD_drop, List.getElem?_eq_none (by omega)] at h
        cases h
  · have hel2 : e < l.length := by omega
    have h10 : l.getD e 0 = 10 := hend.resolve_left hl
    rw [indexByte_at (o := e - i) (by rw [getD_drop, show i + (e - i) = e by omega, get_some l hel2, h10]) hn, if_pos (by omega)]
    omega
theorem occ2 {l : List UInt8} {a b : UInt8} {k : Nat} (hk : k + 1 < l.length) : Lib.occAt l [a, b] k = (l.getD k 0 == a && l.getD (k + 1) 0 == b) := by
  unfold Lib.occAt
  rw [List.drop_eq_getElem_cons (by omega), List.drop_eq_getElem_cons hk]
  simp [List.isPrefixOf, Bool.beq_comm (a := a), Bool.beq_comm (a := b), (by omega : k < l.length), hk]
theorem occ2_short {l : List UInt8} {a b : UInt8} {k : Nat} (hk : l.length ≤ k + 1) : Lib.occAt l [a, b] k = false := by
  rw [Bool.eq_false_iff]
  intro h
  unfold Lib.occAt at h
  have := (List.isPrefixOf_iff_prefix.1 h).length_le
  rw [List.length_drop] at this
  simp at this
  omega
theorem pre2 {l : List UInt8} {a b : UInt8} {i : Nat} (hi : i + 1 < l.length) : Lib.hasPrefix (l.drop i) [a, b] = (l.getD i 0 == a && l.getD (i + 1) 0 == b) := occ2 hi
theorem drop_drop2 (l : List UInt8) (i : Nat) : (l.drop i).drop 2 = l.drop (i + 2) := by rw [List.drop_drop]
theorem getD_of_drop (l : List UInt8) (i k : Nat) : (l.drop i).getD k 0 = l.getD (i + k) 0 := by simp [List.getD_eq_getElem?_getD]
theorem rmk_open {l : List UInt8} {i : Nat} (hi : i + 1 < l.length) (h1 : l.getD i 0 = 47) (h2 : l.getD (i + 1) 0 = 42) :
    rmk l i = if 0 ≤ Lib.index (l.drop (i + 2)) [42, 47] then i + (Lib.index (l.drop (i + 2)) [42, 47]).toNat + 4 else i := by
  unfold rmk
  rw [head_drop l (by omega), h1, if_neg (by decide), pre2 hi, h1, h2, if_pos (by decide), drop_drop2]
/-- A remark to its own end. -/
theorem rmk_block {l : List UInt8} {i j : Nat} (hi : i + 1 < l.length) (h1 : l.getD i 0 = 47) (h2 : l.getD (i + 1) 0 = 42) (hij : i + 2 ≤ j) (hj : j + 1 < l.length) (h3 : l.getD j 0 = 42) (h4 : l.getD (j + 1) 0 = 47)
    (hall : ∀ k, i + 2 ≤ k → k < j → ¬ (l.getD k 0 = 42 ∧ l.getD (k + 1) 0 = 47)) : rmk l i = j + 2 := by
  rw [rmk_open hi h1 h2]
  have hix : Lib.index (l.drop (i + 2)) [42, 47] = (j - (i + 2) : Nat) := by
    refine Lib.index_first (by rw [List.length_drop]; omega) ?_ fun k hk => ?_
    · rw [occ2 (by rw [List.length_drop]; omega), getD_of_drop, getD_of_drop, show i + 2 + (j - (i + 2)) = j by omega, show i + 2 + (j - (i + 2) + 1) = j + 1 by omega, h3, h4]
      decide
    · rw [occ2 (by rw [List.length_drop]; omega), getD_of_drop, getD_of_drop]
      have := hall (i + 2 + k) (by omega) (by omega)
      rw [Bool.eq_false_iff]
      intro h
      simp only [Bool.and_eq_true, beq_iff_eq] at h
      exact this ⟨h.1, h.2⟩
  rw [hix, if_pos (by omega)]
  omega
theorem rmk_unended {l : List UInt8} {i : Nat} (hi : i + 1 < l.length) (h1 : l.getD i 0 = 47) (h2 : l.getD (i + 1) 0 = 42) (hall : ∀ k, i + 2 ≤ k → k + 1 < l.length → ¬ (l.getD k 0 = 42 ∧ l.getD (k + 1) 0 = 47)) : rmk l i = i := by
  rw [rmk_open hi h1 h2, Lib.index_none (fun k _ => ?_), if_neg (by omega)]
  by_cases hk : k + 1 < (l.drop (i + 2)).length
  · rw [occ2 hk, getD_of_drop, getD_of_drop]
    rw [List.length_drop] at hk
    have := hall (i + 2 + k) (by omega) (by omega)
    rw [Bool.eq_false_iff]
    intro h
    simp only [Bool.and_eq_true, beq_iff_eq] at h
    exact this ⟨h.1, h.2⟩
  · exact occ2_short (by omega)
theorem rmk_no {l : List UInt8} {i : Nat} (hi : i < l.length) (h1 : l.getD i 0 ≠ 37) (h2 : l.length ≤ i + 1 ∨ l.getD i 0 ≠ 47 ∨ l.getD (i + 1) 0 ≠ 42) : rmk l i = i := by
  unfold rmk
  rw [head_drop l hi, if_neg (by intro h; injection h with h; exact h1 h), if_neg]
  intro h
  by_cases hk : i + 1 < l.length
  · rw [pre2 hk] at h
    simp only [Bool.and_eq_true, beq_iff_eq] at h
    rcases h2 with h2 | h2 | h2
    · omega
    · exact h2 h.1
    · exact h2 h.2
  · rw [show Lib.hasPrefix (l.drop i) [47, 42] = Lib.occAt l [47, 42] i from rfl, occ2_short (by omega)] at h
    cases h
/-- A quoted token. -/
theorem qtd_at {l : List UInt8} {i j : Nat} (hi : i < l.length) (hij : i + 1 ≤ j) (hj : j ≤ l.length) (hend : j = l.length ∨ isIn (l.getD j 0).toNat = false) (hall : ∀ k, i + 1 ≤ k → k < j → isIn (l.getD k 0).toNat = true) :
    qtd l i = if j = i + 1 ∨ j = l.length ∨ l.getD j 0 ≠ 39 then i else j + 1 := by
  have hr := runTo_eq hj hend (n := j - (i + 1)) (i := i + 1) (by omega) hall
  unfold qtd
  rw [hr]

/-! ## Walks -/
def isLet (c : Nat) : Bool := isSmall c || isGreat c
set_option maxHeartbeats 400000 in
theorem refLetter_any (c : Nat) (w : World) : Calls Try.prog 39 #[.int .u8 c] w (TestRes (isLet c) w) := by
  go_enter Try.func39, Try.ntmps39
  go_wp2_with fail
  all_goals
    go_ret
    refine ⟨congrArg Ending.returned (congrArg Value.bool (Bool.eq_iff_iff.2 ?_)), rfl⟩
    unfold isLet
    try unfold isSmall isGreat
    simp
    try omega
set_option maxHeartbeats 400000 in
theorem refDigit_any (c : Nat) (w : World) : Calls Try.prog 31 #[.int .u8 c] w (TestRes (isDigit c) w) := by
  go_enter Try.func31, Try.ntmps31
  go_wp2_with fail
  all_goals
    go_ret
    refine ⟨congrArg Ending.returned (congrArg Value.bool (Bool.eq_iff_iff.2 ?_)), rfl⟩
    unfold isDigit
    try unfold isSmall isGreat
    simp
    try omega
set_option maxHeartbeats 400000 in
theorem refBlank_any (c : Nat) (w : World) : Calls Try.prog 23 #[.int .u8 c] w (TestRes (isBlank c) w) := by
  go_enter Try.func23, Try.ntmps23
  go_wp2_with fail
  all_goals
    go_ret
    refine ⟨congrArg Ending.returned (congrArg Value.bool (Bool.eq_iff_iff.2 ?_)), rfl⟩
    unfold isBlank
    try unfold isSmall isGreat
    simp
    try omega

theorem isWord_eq (c : Nat) : isWord c = (isLet c || isDigit c || decide (c = 95)) := rfl

set_option maxHeartbeats 2000000 in
theorem refWord_any (s : ByteArray) (i : Nat) (w : World) (hi : i ≤ s.size) (hs : s.size ≤ 1000000) :
    Calls Try.prog 30 #[.string s, .int .i64 i] w (fun e w' => e = .returned (.int .i64 (runTo isWord (bts s) i : Nat)) ∧ w' = w) := by
  go_enter Try.func30, Try.ntmps30
  go_wp2_with fail
  go_loopw [1] (fun k wr => ∃ j : Nat, k = .int .i64 j ∧ i ≤ j ∧ j ≤ s.size ∧ (∀ k, i ≤ k → k < j → isWord ((bts s).getD k 0).toNat = true) ∧ wr = w) (fun k _ => s.size - (intOf k).toNat)
  case atStart => exact ⟨i, rfl, Nat.le_refl _, hi, fun k h1 h2 => by omega, rfl⟩
  case round =>
    obtain ⟨j, rfl, hj1, hj2, hall, rfl⟩ := hrel
    have Hall := Lib.hid hall
    clear hall
    by_cases hlt : j < s.size
    · have hb := bts_get s hlt
      cases h1 : isLet s[j].toNat with
      | true =>
        have H1 := Lib.hid h1
        have Hp := Lib.hid (show isWord s[j].toNat = true by rw [isWord_eq, h1]; rfl)
        clear h1
        go_wp2_with (first
          | (go_at_call 39
             refine (refLetter_any s[j].toNat _).mono ?_
             rintro e w1 ⟨rfl, rfl⟩
             rw [H1.out])
          | (go_at_call 31
             refine (refDigit_any s[j].toNat _).mono ?_
             rintro e w1 ⟨rfl, rfl⟩
             try rw [H2.out]))
        go_roundw
        case rel =>
          refine ⟨j + 1, by go_num, by omega, by omega, fun k h1 h2 => ?_, trivial⟩
          by_cases hk : k = j
          · subst hk; rw [hb]; exact Hp.out
          · exact Hall.out k h1 (by omega)
        case measure => simp [intOf]; omega
      | false =>
        cases h2 : isDigit s[j].toNat with
        | true =>
          have Hp := Lib.hid (show isWord s[j].toNat = true by rw [isWord_eq, h1, h2]; rfl)
          have H1 := Lib.hid h1
          have H2 := Lib.hid h2
          clear h1 h2
          go_wp2_with (first
            | (go_at_call 39
               refine (refLetter_any s[j].toNat _).mono ?_
               rintro e w1 ⟨rfl, rfl⟩
               rw [H1.out])
            | (go_at_call 31
               refine (refDigit_any s[j].toNat _).mono ?_
               rintro e w1 ⟨rfl, rfl⟩
               try rw [H2.out]))
          go_roundw
          case rel =>
            refine ⟨j + 1, by go_num, by omega, by omega, fun k h1 h2 => ?_, trivial⟩
            by_cases hk : k = j
            · subst hk; rw [hb]; exact Hp.out
            · exact Hall.out k h1 (by omega)
          case measure => simp [intOf]; omega
        | false =>
          by_cases h3 : s[j].toNat = 95
          · have Hp := Lib.hid (show isWord s[j].toNat = true by rw [isWord_eq, h3]; rfl)
            have H1 := Lib.hid h1
            have H2 := Lib.hid h2
            have q3 : ((s[j].toNat : Int) == 95) = true := by rw [h3]; rfl
            clear h1 h2 h3
            go_wp2_with (first
              | (go_at_call 39
                 refine (refLetter_any s[j].toNat _).mono ?_
                 rintro e w1 ⟨rfl, rfl⟩
                 rw [H1.out])
              | (go_at_call 31
                 refine (refDigit_any s[j].toNat _).mono ?_
                 rintro e w1 ⟨rfl, rfl⟩
                 try rw [H2.out]))
            go_roundw
            case rel =>
              refine ⟨j + 1, by go_num, by omega, by omega, fun k h1 h2 => ?_, trivial⟩
              by_cases hk : k = j
              · subst hk; rw [hb]; exact Hp.out
              · exact Hall.out k h1 (by omega)
            case measure => simp [intOf]; omega
          · have Hp := Lib.hid (show isWord s[j].toNat = false by rw [isWord_eq, h1, h2]; simp [h3])
            have H1 := Lib.hid h1
            have H2 := Lib.hid h2
            have q3 : ((s[j].toNat : Int) == 95) = false := by rw [beq_eq_false_iff_ne]; omega
            clear h1 h2 h3
            go_wp2_with (first
              | (go_at_call 39
                 refine (refLetter_any s[j].toNat _).mono ?_
                 rintro e w1 ⟨rfl, rfl⟩
                 rw [H1.out])
              | (go_at_call 31
                 refine (refDigit_any s[j].toNat _).mono ?_
                 rintro e w1 ⟨rfl, rfl⟩
                 rw [H2.out]))
            go_ret
            refine ⟨?_, rfl⟩
            rw [runTo_eq (j := j) (n := j - i) (by rw [bts_len]; exact hj2) (.inr (by rw [hb]; exact Hp.out)) (by omega) Hall.out]
            rfl
    · have hjj : j = s.size := by omega
      go_wp2_with fail
      go_ret
      refine ⟨?_, rfl⟩
      rw [runTo_eq (j := j) (n := j - i) (by rw [bts_len]; exact hj2) (.inl (by rw [bts_len]; exact hjj)) (by omega) Hall.out]
      rfl

end Go.Proofs.Ytgmoneimfnackaa
