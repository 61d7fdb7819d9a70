/-
  Walks over Quote of both, law12.text.
-/
import Derived.Test.YtgmoneimfnackaaTokM
namespace Go.Proofs.Ytgmoneimfnackaa
open Go.RowKit

theorem refName_any (s : ByteArray) (w : World) : Calls Try.prog 14 #[.string s] w (TestRes (nameB s) w) := by
  go_enter Try.func14, Try.ntmps14
  go_wp2_with (go_at_call 21
               refine (named_any s _).mono ?_
               rintro e1 w1 ⟨rfl, rfl⟩)
  go_ret
  exact ⟨rfl, rfl⟩

theorem nameB_pos {s : ByteArray} (h : nameB s = true) : 0 < s.size ∧ s.size ≤ 40 := by
  unfold nameB at h
  simp only [Bool.and_eq_true, decide_eq_true_eq] at h
  omega

/-- What Quote hands back. -/
def QuoteRes (s : ByteArray) (w : World) (e : Ending) (w' : World) : Prop := e = .returned (.tuple #[.string (quoteR s).1, .bool (quoteR s).2]) ∧ w' = w

set_option maxHeartbeats 1000000 in
theorem quote_any (s : ByteArray) (w : World) : Calls Try.prog 11 #[.string s] w (QuoteRes s w) := by
  cases hn : nameB s with
  | false =>
    have hq : quoteR s = (⟨#[]⟩, false) := by unfold quoteR; rw [hn]; rfl
    have Hn := Lib.hid hn
    have Hq := Lib.hid hq
    clear hn hq
    go_enter Try.func11, Try.ntmps11
    go_wp2_with (go_at_call 13
                 refine (name_any s _).mono ?_
                 rintro e1 w1 ⟨rfl, rfl⟩
                 rw [Hn.out])
    refine bodyPost_ret (results_tmp2 rfl _ _ _) rfl ?_
    exact ⟨by rw [Hq.out]; rfl, rfl⟩
  | true =>
    obtain ⟨h0, h40⟩ := nameB_pos hn
    have hb := bts_get s h0
    have hq : quoteR s = if isSmall s[0].toNat then (s, true) else (⟨#[39]⟩ ++ s ++ ⟨#[39]⟩, true) := by unfold quoteR; rw [hn, if_pos rfl, hb]
    have Hn := Lib.hid hn
    clear hn hb
    cases h1 : isSmall s[0].toNat with
    | true =>
      rw [h1, if_pos rfl] at hq
      have Hq := Lib.hid hq
      have H1 := Lib.hid h1
      clear hq h1
      go_enter Try.func11, Try.ntmps11
      go_wp2_with (first
        | (go_at_call 13
           refine (name_any s _).mono ?_
           rintro e1 w1 ⟨rfl, rfl⟩
           rw [Hn.out])
        | (go_at_call 18
           refine (small_any s[0].toNat _).mono ?_
           rintro e1 w1 ⟨rfl, rfl⟩
           rw [H1.out]))
      refine bodyPost_ret (results_tmp2 rfl _ _ _) rfl ?_
      exact ⟨by rw [Hq.out]; rfl, rfl⟩
    | false =>
      rw [h1, if_neg (by decide)] at hq
      have Hq := Lib.hid hq
      have H1 := Lib.hid h1
      clear hq h1
      go_enter Try.func11, Try.ntmps11
      go_wp2_with (first
        | (go_at_call 13
           refine (name_any s _).mono ?_
           rintro e1 w1 ⟨rfl, rfl⟩
           rw [Hn.out])
        | (go_at_call 18
           refine (small_any s[0].toNat _).mono ?_
           rintro e1 w1 ⟨rfl, rfl⟩
           rw [H1.out]))
      refine bodyPost_ret (results_tmp2 rfl _ _ _) rfl ?_
      exact ⟨by rw [Hq.out]; rfl, rfl⟩

set_option maxHeartbeats 1000000 in
theorem refQuote_any (s : ByteArray) (w : World) : Calls Try.prog 12 #[.string s] w (QuoteRes s w) := by
  cases hn : nameB s with
  | false =>
    have hq : quoteR s = (⟨#[]⟩, false) := by unfold quoteR; rw [hn]; rfl
    have Hn := Lib.hid hn
    have Hq := Lib.hid hq
    clear hn hq
    go_enter Try.func12, Try.ntmps12
    go_wp2_with (go_at_call 14
                 refine (refName_any s _).mono ?_
                 rintro e1 w1 ⟨rfl, rfl⟩
                 rw [Hn.out])
    refine bodyPost_ret (results_tmp2 rfl _ _ _) rfl ?_
    exact ⟨by rw [Hq.out]; rfl, rfl⟩
  | true =>
    obtain ⟨h0, h40⟩ := nameB_pos hn
    have hb := bts_get s h0
    have hq : quoteR s = if isSmall s[0].toNat then (s, true) else (⟨#[39]⟩ ++ s ++ ⟨#[39]⟩, true) := by unfold quoteR; rw [hn, if_pos rfl, hb]
    have Hn := Lib.hid hn
    clear hn hb
    obtain ⟨c, hc⟩ : ∃ c, s[0].toNat = c := ⟨_, rfl⟩
    rw [hc] at hq
    have hcc : (97 ≤ c ∧ c ≤ 122) ∨ c < 97 ∨ 122 < c := by omega
    have hsm : isSmall c = (decide (97 ≤ c) && decide (c ≤ 122)) := rfl
    rcases hcc with ⟨h11, h12⟩ | h2 | h2
    · rw [hsm, decide_eq_true h11, decide_eq_true h12] at hq
      have Hq := Lib.hid hq
      clear hq hsm
      go_enter Try.func12, Try.ntmps12
      go_wp2_with (go_at_call 14
                   refine (refName_any s _).mono ?_
                   rintro e1 w1 ⟨rfl, rfl⟩
                   rw [Hn.out])
      refine bodyPost_ret (results_tmp2 rfl _ _ _) rfl ?_
      exact ⟨by rw [Hq.out]; rfl, rfl⟩
    all_goals
      have hsm2 : isSmall c = false := by rw [hsm, Bool.and_eq_false_iff, decide_eq_false_iff_not, decide_eq_false_iff_not]; omega
      rw [hsm2] at hq
      have Hq := Lib.hid hq
      clear hq hsm hsm2
      go_enter Try.func12, Try.ntmps12
      go_wp2_with (go_at_call 14
                   refine (refName_any s _).mono ?_
                   rintro e1 w1 ⟨rfl, rfl⟩
                   rw [Hn.out])
      refine bodyPost_ret (results_tmp2 rfl _ _ _) rfl ?_
      exact ⟨by rw [Hq.out]; rfl, rfl⟩

/-! ## A token, as it is written -/
def txt (t : Tk) : ByteArray := if t.kind = 4 then ⟨#[39]⟩ ++ t.text ++ ⟨#[39]⟩ else t.text

set_option maxHeartbeats 1000000 in
theorem text_any (t : Tk) (w : World) (ht : t.text.size ≤ 1000000) : Calls Try.prog 15 #[tkV t] w (fun e w' => e = .returned (.string (txt t)) ∧ Below w.heap.size w w') := by
  obtain ⟨k, x, p⟩ := t
  unfold tkV
  simp only at ht ⊢
  by_cases h : k = 4
  · have hx : txt ⟨k, x, p⟩ = ⟨#[39]⟩ ++ x ++ ⟨#[39]⟩ := by unfold txt; rw [if_pos h]
    have q : ((k : Int) == 4) = true := by rw [h]; rfl
    have Hx := Lib.hid hx
    clear hx h
    go_enter Try.func15, Try.ntmps15
    go_wp2_with fail
    go_ret
    exact ⟨by rw [Hx.out]; rfl, below_box w _⟩
  · have hx : txt ⟨k, x, p⟩ = x := by unfold txt; rw [if_neg h]
    have q : ((k : Int) == 4) = false := by rw [beq_eq_false_iff_ne]; omega
    have Hx := Lib.hid hx
    clear hx h
    go_enter Try.func15, Try.ntmps15
    go_wp2_with fail
    go_ret
    exact ⟨by rw [Hx.out]; rfl, below_box w _⟩

end Go.Proofs.Ytgmoneimfnackaa
