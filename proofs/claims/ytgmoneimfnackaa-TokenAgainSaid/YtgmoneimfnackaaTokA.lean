/-
  Walks over token's bytes: small, great, digit, inWord, quoted's; while.
-/
import Derived.Test.YtgmoneimfnackaaShelf
import Derived.Test.YtgmoneimfnackaaOwn
namespace Go.Proofs.Ytgmoneimfnackaa
open Go.RowKit

/-! ## The plain words -/
def isSmall (c : Nat) : Bool := decide (97 ≤ c) && decide (c ≤ 122)
def isGreat (c : Nat) : Bool := decide (65 ≤ c) && decide (c ≤ 90)
def isDigit (c : Nat) : Bool := decide (48 ≤ c) && decide (c ≤ 57)
def isWord (c : Nat) : Bool := isSmall c || isGreat c || isDigit c || decide (c = 95)
def isIn (c : Nat) : Bool := decide (32 ≤ c) && decide (c ≤ 126) && decide (c ≠ 39) && decide (c ≠ 92)

/-- What a test on a byte answers. -/
def TestRes (b : Bool) (w : World) (e : Ending) (w' : World) : Prop := e = .returned (.bool b) ∧ w' = w

set_option maxHeartbeats 400000 in
theorem small_any (c : Nat) (w : World) : Calls Try.prog 18 #[.int .u8 c] w (TestRes (isSmall c) w) := by
  go_enter Try.func18, Try.ntmps18
  go_wp2_with fail
  all_goals
    go_ret
    refine ⟨congrArg Ending.returned (congrArg Value.bool (Bool.eq_iff_iff.2 ?_)), rfl⟩
    unfold isSmall
    simp
    try omega
set_option maxHeartbeats 400000 in
theorem great_any (c : Nat) (w : World) : Calls Try.prog 26 #[.int .u8 c] w (TestRes (isGreat c) w) := by
  go_enter Try.func26, Try.ntmps26
  go_wp2_with fail
  all_goals
    go_ret
    refine ⟨congrArg Ending.returned (congrArg Value.bool (Bool.eq_iff_iff.2 ?_)), rfl⟩
    unfold isGreat
    simp
    try omega
set_option maxHeartbeats 400000 in
theorem digit_any (c : Nat) (w : World) : Calls Try.prog 27 #[.int .u8 c] w (TestRes (isDigit c) w) := by
  go_enter Try.func27, Try.ntmps27
  go_wp2_with fail
  all_goals
    go_ret
    refine ⟨congrArg Ending.returned (congrArg Value.bool (Bool.eq_iff_iff.2 ?_)), rfl⟩
    unfold isDigit
    simp
    try omega
set_option maxHeartbeats 400000 in
theorem quotedIn_any (c : Nat) (w : World) : Calls Try.prog 43 #[.int .u8 c] w (TestRes (isIn c) w) := by
  go_enter Try.func43, Try.ntmps43
  go_wp2_with fail
  all_goals
    go_ret
    refine ⟨congrArg Ending.returned (congrArg Value.bool (Bool.eq_iff_iff.2 ?_)), rfl⟩
    unfold isIn
    simp
    try omega

set_option maxHeartbeats 1000000 in
theorem inWord_any (c : Nat) (w : World) : Calls Try.prog 20 #[.int .u8 c] w (TestRes (isWord c) w) := by
  have hw : isWord c = (isSmall c || isGreat c || isDigit c || decide (c = 95)) := rfl
  have Hw := Lib.hid hw
  clear hw
  go_enter Try.func20, Try.ntmps20
  go_wp2_with (first
    | (go_at_call 18
       refine (small_any c _).mono ?_
       rintro e w1 ⟨rfl, rfl⟩
       cases h1 : isSmall c)
    | (go_at_call 26
       refine (great_any c _).mono ?_
       rintro e w1 ⟨rfl, rfl⟩
       cases h2 : isGreat c)
    | (go_at_call 27
       refine (digit_any c _).mono ?_
       rintro e w1 ⟨rfl, rfl⟩
       cases h3 : isDigit c))
  all_goals
    go_ret
    refine ⟨congrArg Ending.returned (congrArg Value.bool (Bool.eq_iff_iff.2 ?_)), rfl⟩
    rw [Hw.out]
    simp [*]
    try omega

/-- A text's bytes. -/
def bts (s : ByteArray) : List UInt8 := s.data.toList
theorem bts_len (s : ByteArray) : (bts s).length = s.size := rfl
theorem bts_get (s : ByteArray) {j : Nat} (h : j < s.size) : (bts s).getD j 0 = s[j] := by
  have h' : j < s.data.toList.length := h
  unfold bts
  rw [List.getD_eq_getElem?_getD, List.getElem?_eq_getElem h']
  rfl
/-- How far bytes are of a kind, from a place on. -/
def runTo (p : Nat → Bool) (l : List UInt8) (i : Nat) : Nat := i + ((l.drop i).takeWhile fun b => p b.toNat).length
theorem runTo_eq {p : Nat → Bool} {l : List UInt8} {j : Nat} (hj : j ≤ l.length) (he : j = l.length ∨ p (l.getD j 0).toNat = false) : ∀ {n i : Nat}, i + n = j → (∀ k, i ≤ k → k < j → p (l.getD k 0).toNat = true) → runTo p l i = j
  | 0, i, hn, _ => by
    have : i = j := by omega
    subst this
    unfold runTo
    have h0 : ((l.drop i).takeWhile fun b => p b.toNat).length = 0 := by
      by_cases hl : i < l.length
      · rcases he with he | he
        · omega
        · rw [List.drop_eq_getElem_cons hl]
          rw [List.getD_eq_getElem?_getD, List.getElem?_eq_getElem hl, Option.getD_some] at he
          rw [List.takeWhile_cons_of_neg (by simp [he])]; rfl
      · rw [List.drop_eq_nil_of_le (by omega)]; rfl
    omega
  | n + 1, i, hn, h => by
    have hl : i < l.length := by omega
    have ih := runTo_eq hj he (n := n) (i := i + 1) (by omega) (fun k h1 h2 => h k (by omega) h2)
    unfold runTo at ih ⊢
    have hp := h i (Nat.le_refl _) (by omega)
    rw [List.getD_eq_getElem?_getD, List.getElem?_eq_getElem hl, Option.getD_some] at hp
    rw [List.drop_eq_getElem_cons hl, List.takeWhile_cons_of_pos (p := fun b : UInt8 => p b.toNat) hp]
    simp only [List.length_cons]
    omega
theorem runTo_le (p : Nat → Bool) (l : List UInt8) {i : Nat} (h : i ≤ l.length) : i ≤ runTo p l i ∧ runTo p l i ≤ l.length := by
  unfold runTo
  have := (List.takeWhile_prefix (p := fun b : UInt8 => p b.toNat) (l := l.drop i)).length_le
  rw [List.length_drop] at this
  omega

set_option maxHeartbeats 1000000 in
theorem whileWord_any (s : ByteArray) (i : Nat) (w : World) (hi : i ≤ s.size) (hs : s.size ≤ 1000000) :
    Calls Try.prog 19 #[.string s, .int .i64 i, .func (.func 20) #[] #[]] w (fun e w' => e = .returned (.int .i64 (runTo isWord (bts s) i : Nat)) ∧ w' = w) := by
  go_enter Try.func19, Try.ntmps19
  go_wp2_with fail
  go_loopw [1] (fun k wr => ∃ j : Nat, k = .int .i64 j ∧ i ≤ j ∧ j ≤ s.size ∧ (∀ k, i ≤ k → k < j → isWord ((bts s).getD k 0).toNat = true) ∧ wr = w) (fun k _ => s.size - (intOf k).toNat)
  case atStart => exact ⟨i, rfl, Nat.le_refl _, hi, fun k h1 h2 => by omega, rfl⟩
  case round =>
    obtain ⟨j, rfl, hj1, hj2, hall, rfl⟩ := hrel
    have Hall := Lib.hid hall
    clear hall
    by_cases hlt : j < s.size
    · have hb := bts_get s hlt
      cases hp : isWord s[j].toNat with
      | true =>
        have Hp := Lib.hid hp
        clear hp
        go_wp2_with (go_at_call 20
                     refine (inWord_any s[j].toNat _).mono ?_
                     rintro e w1 ⟨rfl, rfl⟩
                     rw [Hp.out])
        go_roundw
        case rel =>
          refine ⟨j + 1, by go_num, by omega, by omega, fun k h1 h2 => ?_, trivial⟩
          by_cases hk : k = j
          · subst hk; rw [hb]; exact Hp.out
          · exact Hall.out k h1 (by omega)
        case measure => simp [intOf]; omega
      | false =>
        have Hp := Lib.hid hp
        clear hp
        go_wp2_with (go_at_call 20
                     refine (inWord_any s[j].toNat _).mono ?_
                     rintro e w1 ⟨rfl, rfl⟩
                     rw [Hp.out])
        go_ret
        refine ⟨?_, rfl⟩
        rw [runTo_eq (j := j) (n := j - i) (by rw [bts_len]; exact hj2) (.inr (by rw [hb]; exact Hp.out)) (by omega) Hall.out]
        rfl
    · have hjj : j = s.size := by omega
      go_wp2_with fail
      go_ret
      refine ⟨?_, rfl⟩
      rw [runTo_eq (j := j) (n := j - i) (by rw [bts_len]; exact hj2) (.inl (by rw [bts_len]; exact hjj)) (by omega) Hall.out]
      rfl
set_option maxHeartbeats 1000000 in
theorem whileDigit_any (s : ByteArray) (i : Nat) (w : World) (hi : i ≤ s.size) (hs : s.size ≤ 1000000) :
    Calls Try.prog 19 #[.string s, .int .i64 i, .func (.func 27) #[] #[]] w (fun e w' => e = .returned (.int .i64 (runTo isDigit (bts s) i : Nat)) ∧ w' = w) := by
  go_enter Try.func19, Try.ntmps19
  go_wp2_with fail
  go_loopw [1] (fun k wr => ∃ j : Nat, k = .int .i64 j ∧ i ≤ j ∧ j ≤ s.size ∧ (∀ k, i ≤ k → k < j → isDigit ((bts s).getD k 0).toNat = true) ∧ wr = w) (fun k _ => s.size - (intOf k).toNat)
  case atStart => exact ⟨i, rfl, Nat.le_refl _, hi, fun k h1 h2 => by omega, rfl⟩
  case round =>
    obtain ⟨j, rfl, hj1, hj2, hall, rfl⟩ := hrel
    have Hall := Lib.hid hall
    clear hall
    by_cases hlt : j < s.size
    · have hb := bts_get s hlt
      cases hp : isDigit s[j].toNat with
      | true =>
        have Hp := Lib.hid hp
        clear hp
        go_wp2_with (go_at_call 27
                     refine (digit_any s[j].toNat _).mono ?_
                     rintro e w1 ⟨rfl, rfl⟩
                     rw [Hp.out])
        go_roundw
        case rel =>
          refine ⟨j + 1, by go_num, by omega, by omega, fun k h1 h2 => ?_, trivial⟩
          by_cases hk : k = j
          · subst hk; rw [hb]; exact Hp.out
          · exact Hall.out k h1 (by omega)
        case measure => simp [intOf]; omega
      | false =>
        have Hp := Lib.hid hp
        clear hp
        go_wp2_with (go_at_call 27
                     refine (digit_any s[j].toNat _).mono ?_
                     rintro e w1 ⟨rfl, rfl⟩
                     rw [Hp.out])
        go_ret
        refine ⟨?_, rfl⟩
        rw [runTo_eq (j := j) (n := j - i) (by rw [bts_len]; exact hj2) (.inr (by rw [hb]; exact Hp.out)) (by omega) Hall.out]
        rfl
    · have hjj : j = s.size := by omega
      go_wp2_with fail
      go_ret
      refine ⟨?_, rfl⟩
      rw [runTo_eq (j := j) (n := j - i) (by rw [bts_len]; exact hj2) (.inl (by rw [bts_len]; exact hjj)) (by omega) Hall.out]
      rfl
set_option maxHeartbeats 1000000 in
theorem whileIn_any (s : ByteArray) (i : Nat) (w : World) (hi : i ≤ s.size) (hs : s.size ≤ 1000000) :
    Calls Try.prog 19 #[.string s, .int .i64 i, .func (.func 43) #[] #[]] w (fun e w' => e = .returned (.int .i64 (runTo isIn (bts s) i : Nat)) ∧ w' = w) := by
  go_enter Try.func19, Try.ntmps19
  go_wp2_with fail
  go_loopw [1] (fun k wr => ∃ j : Nat, k = .int .i64 j ∧ i ≤ j ∧ j ≤ s.size ∧ (∀ k, i ≤ k → k < j → isIn ((bts s).getD k 0).toNat = true) ∧ wr = w) (fun k _ => s.size - (intOf k).toNat)
  case atStart => exact ⟨i, rfl, Nat.le_refl _, hi, fun k h1 h2 => by omega, rfl⟩
  case round =>
    obtain ⟨j, rfl, hj1, hj2, hall, rfl⟩ := hrel
    have Hall := Lib.hid hall
    clear hall
    by_cases hlt : j < s.size
    · have hb := bts_get s hlt
      cases hp : isIn s[j].toNat with
      | true =>
        have Hp := Lib.hid hp
        clear hp
        go_wp2_with (go_at_call 43
                     refine (quotedIn_any s[j].toNat _).mono ?_
                     rintro e w1 ⟨rfl, rfl⟩
                     rw [Hp.out])
        go_roundw
        case rel =>
          refine ⟨j + 1, by go_num, by omega, by omega, fun k h1 h2 => ?_, trivial⟩
          by_cases hk : k = j
          · subst hk; rw [hb]; exact Hp.out
          · exact Hall.out k h1 (by omega)
        case measure => simp [intOf]; omega
      | false =>
        have Hp := Lib.hid hp
        clear hp
        go_wp2_with (go_at_call 43
                     refine (quotedIn_any s[j].toNat _).mono ?_
                     rintro e w1 ⟨rfl, rfl⟩
                     rw [Hp.out])
        go_ret
        refine ⟨?_, rfl⟩
        rw [runTo_eq (j := j) (n := j - i) (by rw [bts_len]; exact hj2) (.inr (by rw [hb]; exact Hp.out)) (by omega) Hall.out]
        rfl
    · have hjj : j = s.size := by omega
      go_wp2_with fail
      go_ret
      refine ⟨?_, rfl⟩
      rw [runTo_eq (j := j) (n := j - i) (by rw [bts_len]; exact hj2) (.inl (by rw [bts_len]; exact hjj)) (by omega) Hall.out]
      rfl

end Go.Proofs.Ytgmoneimfnackaa
