/-
  A name that is written is one token: the law in plain Lean, and the walk over law12.TokenQuotes.
-/
import Derived.Test.YtgmoneimfnackaaTokQ
namespace Go.Proofs.Ytgmoneimfnackaa
open Go.RowKit

theorem word_in {c : Nat} (h : isWord c = true) : isIn c = true := by
  unfold isWord isSmall isGreat isDigit at h
  unfold isIn
  simp at h ⊢
  omega
theorem mk_bts (s : ByteArray) : (⟨(bts s).toArray⟩ : ByteArray) = s := by
  apply bts_inj
  rfl
theorem lex_one {q : ByteArray} {t : Tk} (h0 : 0 < q.size) (h : stepAt q 0 = .tok t q.size) : lex q 0 = ([t, endT q], none) := by
  rw [lex_tok h0 h, lex_end rfl]

theorem quote_cut {s q : ByteArray} (h : quoteR s = (q, true)) : nameB s = true ∧ ∃ k, (k = 1 ∨ k = 4) ∧ cutR q = ([⟨k, s, 0⟩, endT q], 0, 0) := by
  have hn : nameB s = true := by
    unfold quoteR at h
    split at h
    · assumption
    · injection h with _ h; cases h
  refine ⟨hn, ?_⟩
  obtain ⟨h0, h40⟩ := nameB_pos hn
  have hall : ∀ b ∈ bts s, isWord b.toNat = true := by
    unfold nameB at hn
    simp only [Bool.and_eq_true] at hn
    exact List.all_eq_true.1 hn.2
  have hdr := drop_at h0
  rw [List.drop_zero] at hdr
  unfold quoteR at h
  rw [if_pos hn] at h
  have key : ∀ k, q.size ≤ 8000 → 0 < q.size → (wri k (bts s)).length = q.size → IsTok k (bts s) → (bts q).drop 0 = wri k (bts s) ++ [] → cutR q = ([⟨k, s, 0⟩, endT q], 0, 0) := by
    intro k hq h0q hl ht hd
    have hst := step_of hd ht (.inl rfl) (fun _ => by rw [bts_len]; exact h40)
    rw [mk_bts, hl, Nat.zero_add] at hst
    have hlx := lex_one h0q hst
    unfold cutR
    rw [if_neg (by omega), hlx]
  by_cases hs : isSmall ((bts s).getD 0 0).toNat = true
  · rw [if_pos hs] at h
    injection h with h _
    subst h
    exact ⟨1, .inl rfl, key 1 (by omega) h0 (by unfold wri; rw [if_neg (by decide)]; rfl) (.inl ⟨rfl, (bts s).getD 0 0, (bts s).drop (0 + 1), hdr, hs, fun b hb => hall b (by rw [hdr]; exact List.mem_cons_of_mem _ hb)⟩) (by unfold wri; rw [if_neg (by decide)]; simp)⟩
  · rw [if_neg hs] at h
    injection h with h _
    have hb : bts q = 39 :: (bts s ++ [39]) := by
      rw [← h]
      unfold bts
      simp
    have hz : q.size = s.size + 2 := by rw [← bts_len, hb]; simp [bts_len]
    exact ⟨4, .inr rfl, key 4 (by omega) (by omega) (by unfold wri; rw [if_pos rfl, hz]; simp [bts_len]) (.inr (.inr (.inr (.inr (.inl ⟨rfl, by rw [hdr]; simp, fun b hb => word_in (hall b hb)⟩))))) (by unfold wri; rw [if_pos rfl, hb]; simp)⟩

set_option maxRecDepth 100000 in
set_option maxHeartbeats 2000000 in
theorem quotes_any (s : ByteArray) (m : Int) (w : World) (hm : w.cell? ⟨0, 0, none⟩ = some (.int .i64 m)) : Calls Try.prog 6 #[.string s] w (LawRes w) := by
  have hz := cell_pos hm
  have Hm := Lib.hid hm
  clear hm
  obtain ⟨q, b, hc⟩ : ∃ q b, quoteR s = (q, b) := ⟨_, _, rfl⟩
  cases b with
  | false =>
    have hn : nameB s = false := by
      cases hn : nameB s with
      | false => rfl
      | true =>
        exfalso
        unfold quoteR at hc
        rw [if_pos hn] at hc
        split at hc <;> (injection hc with _ hc; cases hc)
    have hq : q = ⟨#[]⟩ := by
      unfold quoteR at hc
      rw [hn, if_neg (by decide)] at hc
      injection hc with hc _
      exact hc.symm
    subst hq
    have Hc := Lib.hid hc
    have Hn := Lib.hid hn
    clear hc hn
    go_enter Try.func6, Try.ntmps6
    go_wp2_with (first
      | (go_at_call 11
         refine (quote_any s _).mono ?_
         rintro e w1 ⟨rfl, rfl⟩
         rw [Hc.out])
      | (go_at_call 13
         refine (name_any s _).mono ?_
         rintro e w1 ⟨rfl, rfl⟩
         rw [Hn.out])
      | (go_at_call 10
         refine (wakes_any m _ Hm.out).mono ?_
         rintro e w4 ⟨rfl, hb4⟩))
    go_ret
    exact ⟨rfl, hb4⟩
  | true =>
    obtain ⟨hn, k, hk, hcut⟩ := quote_cut hc
    have Hc := Lib.hid hc
    have Hn := Lib.hid hn
    have Hcut := Lib.hid hcut
    clear hc hn hcut
    go_enter Try.func6, Try.ntmps6
    go_upto_region 5 with (first
      | (go_at_call 11
         refine (quote_any s _).mono ?_
         rintro e w1 ⟨rfl, rfl⟩
         rw [Hc.out])
      | (go_at_call 7
         refine (cut_any q m _ Hm.out).mono ?_
         rintro e w1 ⟨v1, rfl, hown1, hb1⟩
         rw [Hcut.out] at hown1 ⊢
         have Hown1 := Lib.hid hown1
         have Hb1 := Lib.hid hb1
         clear hown1 hb1))
    have hz1 := Hb1.out.size
    have hown := Hown1.out
    obtain ⟨A1, c1, rfl, hc1, hm1⟩ := hown.form
    rw [List.length_map] at hown hc1
    have hl2 : ([⟨k, s, 0⟩, endT q] : List Tk).length = 2 := rfl
    rw [hl2] at hown hc1
    unfold maxLen at hm1
    obtain ⟨g1, rfl, hg1, a0, a1, a2⟩ := tk_at (k := 0) hown (by rw [hl2]; decide)
    have a0 : w1.cell? ⟨g1, 0, none⟩ = some (.int .i64 k) := a0
    have a1 : w1.cell? ⟨g1, 0 * 3 + 1, none⟩ = some (.string s) := a1
    clear hown a2
    have qs : (s.toList == s.toList) = true := by simp
    rcases hk with rfl | rfl
    all_goals
      go_wp2_with (first
        | (go_at_call 13
           refine (name_any s _).mono ?_
           rintro e w1 ⟨rfl, rfl⟩
           rw [Hn.out])
        | (go_at_call 10
           refine (wakes_any m _ (cell_keep Hb1.out hz Hm.out)).mono ?_
           rintro e w4 ⟨rfl, hb4⟩))
      go_ret
      exact ⟨rfl, Hb1.out.trans (hb4.mono hz1)⟩

end Go.Proofs.Ytgmoneimfnackaa
