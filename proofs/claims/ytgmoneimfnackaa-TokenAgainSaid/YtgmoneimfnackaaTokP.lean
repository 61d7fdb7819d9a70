/-
  Walks over law12.TokenCuts, TokenNames.
-/
import Derived.Test.YtgmoneimfnackaaTokO
namespace Go.Proofs.Ytgmoneimfnackaa
open Go.RowKit

/-- What a law hands back. -/
def LawRes (w : World) (e : Ending) (w' : World) : Prop := e = .returned (.bool true) ∧ Below w.heap.size w w'

theorem lexF_len (s : ByteArray) : ∀ (n i : Nat), i ≤ s.size → (lexF s n i).1.length ≤ s.size + 1 - i
  | 0, i, _ => by unfold lexF; simp
  | n + 1, i, hi => by
    unfold lexF
    by_cases hl : s.size ≤ i
    · rw [if_pos hl]; simp; omega
    · rw [if_neg hl]
      cases hst : stepAt s i with
      | skip j =>
        have := step_skip (by omega) hst
        have := lexF_len s n j this.2
        simp only []
        omega
      | fault e => simp
      | tok t j =>
        have := step_tok (by omega) hst
        have := lexF_len s n j this.2.1
        simp only [List.length_cons]
        omega
theorem cutR_len (s : ByteArray) : (cutR s).1.length ≤ 8001 := by
  unfold cutR
  by_cases hs : 8000 < s.size
  · rw [if_pos hs]; simp
  · rw [if_neg hs]
    have := lexF_len s (s.size + 1) 0 (Nat.zero_le _)
    split
    · exact Nat.le_trans this (by omega)
    · simp

set_option maxRecDepth 100000 in
set_option maxHeartbeats 1000000 in
theorem cuts_any (s : ByteArray) (m : Int) (w : World) (hm : w.cell? ⟨0, 0, none⟩ = some (.int .i64 m)) : Calls Try.prog 3 #[.string s] w (LawRes w) := by
  have hz := cell_pos hm
  obtain ⟨L, a, er, hc⟩ : ∃ L a er, cutR s = (L, a, er) := ⟨_, _, _, rfl⟩
  have Hc := Lib.hid hc
  have Hm := Lib.hid hm
  clear hm hc
  go_enter Try.func3, Try.ntmps3
  go_upto_region 2 with (go_at_call 7
                         refine (cut_any _ m _ Hm.out).mono ?_
                         rintro e w1 ⟨v1, rfl, hown1, hb1⟩
                         rw [Hc.out] at hown1 ⊢
                         have Hown1 := Lib.hid hown1
                         have Hb1 := Lib.hid hb1
                         clear hown1 hb1)
  have hz1 := Hb1.out.size
  go_upto_region 3 with (go_at_call 8
                         refine (refCut_any _ _).mono ?_
                         rintro e w2 ⟨v2, rfl, hown2, hb2⟩
                         rw [Hc.out] at hown2 ⊢
                         have Hown2 := Lib.hid hown2
                         have Hb2 := Lib.hid hb2
                         clear hown2 hb2)
  have hz2 := Hb2.out.size
  have q1 : ((a : Int) == (a : Int)) = true := by simp
  have q2 : ((er : Int) == (er : Int)) = true := by simp
  go_wp2_with (first
    | (go_at_call 9
       refine (same_any L _ _ _ _ _ (Hown1.out.low Hb2.out) Hown2.out).mono ?_
       rintro e w3 ⟨rfl, hb3⟩
       have Hb3 := Lib.hid hb3
       clear hb3)
    | (go_at_call 10
       refine (wakes_any m _ (cell_keep Hb3.out (by omega) (cell_keep Hb2.out (by omega) (cell_keep Hb1.out hz Hm.out)))).mono ?_
       rintro e w4 ⟨rfl, hb4⟩
       have Hb4 := Lib.hid hb4
       clear hb4))
  go_ret
  have hz3 := Hb3.out.size
  exact ⟨rfl, (Hb1.out.trans (Hb2.out.mono hz1)).trans ((Hb3.out.mono (by omega)).trans (Hb4.out.mono (by omega)))⟩

set_option maxRecDepth 100000 in
set_option maxHeartbeats 1000000 in
theorem names_any (s : ByteArray) (m : Int) (w : World) (hm : w.cell? ⟨0, 0, none⟩ = some (.int .i64 m)) : Calls Try.prog 4 #[.string s] w (LawRes w) := by
  have hz := cell_pos hm
  obtain ⟨q, b, hc⟩ : ∃ q b, quoteR s = (q, b) := ⟨_, _, rfl⟩
  obtain ⟨n, hn⟩ : ∃ n, nameB s = n := ⟨_, rfl⟩
  have Hc := Lib.hid hc
  have Hn := Lib.hid hn
  have Hm := Lib.hid hm
  clear hm hc hn
  have q1 : (n == n) = true := by simp
  have q2 : (b == b) = true := by simp
  have q3 : (q.toList == q.toList) = true := by simp
  go_enter Try.func4, Try.ntmps4
  go_wp2_with (first
    | (go_at_call 11
       refine (quote_any s _).mono ?_
       rintro e w1 ⟨rfl, rfl⟩
       rw [Hc.out])
    | (go_at_call 12
       refine (refQuote_any s _).mono ?_
       rintro e w1 ⟨rfl, rfl⟩
       rw [Hc.out])
    | (go_at_call 13
       refine (name_any s _).mono ?_
       rintro e w1 ⟨rfl, rfl⟩
       rw [Hn.out])
    | (go_at_call 14
       refine (refName_any s _).mono ?_
       rintro e w1 ⟨rfl, rfl⟩
       rw [Hn.out])
    | (go_at_call 10
       refine (wakes_any m _ Hm.out).mono ?_
       rintro e w4 ⟨rfl, hb4⟩))
  go_ret
  exact ⟨rfl, hb4⟩

end Go.Proofs.Ytgmoneimfnackaa
