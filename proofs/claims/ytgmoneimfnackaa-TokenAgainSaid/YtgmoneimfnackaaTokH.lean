/-
  Walks over the document's answer: remark, quoted.
-/
import Derived.Test.YtgmoneimfnackaaTokG
namespace Go.Proofs.Ytgmoneimfnackaa
open Go.RowKit

theorem u8_eq {a : UInt8} {n : Nat} (h : a.toNat = n) (hn : n < 256) : a = UInt8.ofNat n := UInt8.toNat_inj.1 (by rw [h, UInt8.toNat_ofNat_of_lt' hn])
theorem u8_ne {a : UInt8} {n : Nat} (h : a.toNat ≠ n) (hn : n < 256) : a ≠ UInt8.ofNat n := fun e => h (by rw [e, UInt8.toNat_ofNat_of_lt' hn])

set_option maxHeartbeats 4000000 in
theorem refRemark_any (s : ByteArray) (i : Nat) (w : World) (hi : i < s.size) (hs : s.size ≤ 1000000) :
    Calls Try.prog 24 #[.string s, .int .i64 i] w (fun e w' => e = .returned (.int .i64 (rmk (bts s) i : Nat)) ∧ w' = w) := by
  generalize hV : rmk (bts s) i = V
  have HV := Lib.hid hV
  clear hV
  have hg := bts_get s hi
  have Hg := Lib.hid hg
  clear hg
  go_enter Try.func24, Try.ntmps24
  by_cases h37 : s[i].toNat = 37
  · have q1 : ((s[i].toNat : Int) == 37) = true := by rw [h37]; rfl
    have H37 := Lib.hid h37
    clear h37
    go_wp2_with fail
    go_loopw [1] (fun k wr => ∃ j : Nat, k = .int .i64 j ∧ i ≤ j ∧ j ≤ s.size ∧ (∀ k, i ≤ k → k < j → (bts s).getD k 0 ≠ 10) ∧ wr = w) (fun k _ => s.size - (intOf k).toNat)
    case atStart => exact ⟨i, rfl, Nat.le_refl _, by omega, fun k h1 h2 => by omega, rfl⟩
    case round =>
      obtain ⟨j, rfl, hj1, hj2, hall, rfl⟩ := hrel
      have Hall := Lib.hid hall
      clear hall
      have fin : (j = s.size ∨ (bts s).getD j 0 = 10) → V = j := fun he => by
        rw [← HV.out]
        exact rmk_line (by rw [bts_len]; exact hi) (by rw [Hg.out]; exact u8_eq H37.out (by decide)) hj1 (by rw [bts_len]; exact hj2) (by rw [bts_len]; exact he) Hall.out
      have Fin := Lib.hid fin
      clear fin
      by_cases hlt : j < s.size
      · have hb := bts_get s hlt
        have Hb := Lib.hid hb
        clear hb
        by_cases h10 : s[j].toNat = 10
        · have q2 : ((s[j].toNat : Int) != 10) = false := by rw [h10]; rfl
          have H10 := Lib.hid h10
          clear h10
          go_wp2_with fail
          go_ret
          refine ⟨?_, rfl⟩
          rw [Fin.out (.inr (by rw [Hb.out]; exact u8_eq H10.out (by decide)))]
          rfl
        · have q2 : ((s[j].toNat : Int) != 10) = true := by rw [bne_iff_ne]; omega
          have H10 := Lib.hid h10
          clear h10
          go_wp2_with fail
          go_roundw
          case rel =>
            refine ⟨j + 1, by go_num, by omega, by omega, fun k h1 h2 => ?_, trivial⟩
            by_cases hk : k = j
            · subst hk; rw [Hb.out]; exact u8_ne H10.out (by decide)
            · exact Hall.out k h1 (by omega)
          case measure => simp [intOf]; omega
      · have hjj : j = s.size := by omega
        have Hjj := Lib.hid hjj
        clear hjj
        go_wp2_with fail
        go_ret
        refine ⟨?_, rfl⟩
        rw [Fin.out (.inl Hjj.out)]
        rfl
  · have q1 : ((s[i].toNat : Int) == 37) = false := by rw [beq_eq_false_iff_ne]; omega
    have H37 := Lib.hid h37
    clear h37
    have no : (s.size ≤ i + 1 ∨ s[i].toNat ≠ 47 ∨ (bts s).getD (i + 1) 0 ≠ 42) → V = i := fun he => by
      rw [← HV.out]
      refine rmk_no (by rw [bts_len]; exact hi) (by rw [Hg.out]; exact u8_ne H37.out (by decide)) ?_
      rw [bts_len]
      rcases he with h | h | h
      · exact .inl h
      · exact .inr (.inl (by rw [Hg.out]; exact u8_ne h (by decide)))
      · exact .inr (.inr h)
    have No := Lib.hid no
    clear no
    by_cases hlt : i + 1 < s.size
    · have hb := bts_get s hlt
      have Hb := Lib.hid hb
      clear hb
      by_cases h47 : s[i].toNat = 47
      · have q2 : ((s[i].toNat : Int) != 47) = false := by rw [h47]; rfl
        have H47 := Lib.hid h47
        clear h47
        by_cases h42 : s[i + 1].toNat = 42
        · have q3 : ((s[i + 1].toNat : Int) != 42) = false := by rw [h42]; rfl
          have H42 := Lib.hid h42
          clear h42 No
          go_wp2_with fail
          go_loopw [5] (fun k wr => ∃ j : Nat, k = .int .i64 j ∧ i + 2 ≤ j ∧ j ≤ s.size ∧ (∀ k, i + 2 ≤ k → k < j → ¬ ((bts s).getD k 0 = 42 ∧ (bts s).getD (k + 1) 0 = 47)) ∧ wr = w) (fun k _ => s.size - (intOf k).toNat)
          case atStart => exact ⟨i + 2, by simp, Nat.le_refl _, by omega, fun k h1 h2 => by omega, rfl⟩
          case round =>
            obtain ⟨j, rfl, hj1, hj2, hall, rfl⟩ := hrel
            have Hall := Lib.hid hall
            clear hall
            by_cases hlt2 : j + 1 < s.size
            · have hlt3 : j < s.size := by omega
              have hb1 := bts_get s hlt3
              have hb2 := bts_get s hlt2
              have Hb1 := Lib.hid hb1
              have Hb2 := Lib.hid hb2
              clear hb1 hb2
              by_cases h3 : s[j].toNat = 42
              · have q4 : ((s[j].toNat : Int) == 42) = true := by rw [h3]; rfl
                have H3 := Lib.hid h3
                clear h3
                by_cases h4 : s[j + 1].toNat = 47
                · have q5 : ((s[j + 1].toNat : Int) == 47) = true := by rw [h4]; rfl
                  have H4 := Lib.hid h4
                  clear h4
                  go_wp2_with fail
                  go_ret
                  refine ⟨?_, rfl⟩
                  have : V = j + 2 := by
                    rw [← HV.out]
                    exact rmk_block (by rw [bts_len]; exact hlt) (by rw [Hg.out]; exact u8_eq H47.out (by decide)) (by rw [Hb.out]; exact u8_eq H42.out (by decide)) hj1 (by rw [bts_len]; exact hlt2) (by rw [Hb1.out]; exact u8_eq H3.out (by decide)) (by rw [Hb2.out]; exact u8_eq H4.out (by decide)) Hall.out
                  rw [this, Int.natCast_add]
                  rfl
                · have q5 : ((s[j + 1].toNat : Int) == 47) = false := by rw [beq_eq_false_iff_ne]; omega
                  have Hn := Lib.hid (show ¬ ((bts s).getD j 0 = 42 ∧ (bts s).getD (j + 1) 0 = 47) from fun h => u8_ne h4 (by decide) (by rw [← Hb2.out]; exact h.2))
                  clear h4
                  go_wp2_with fail
                  go_roundw
                  case rel =>
                    refine ⟨j + 1, by go_num, by omega, by omega, fun k h1 h2 => ?_, trivial⟩
                    by_cases hk : k = j
                    · subst hk; exact Hn.out
                    · exact Hall.out k h1 (by omega)
                  case measure => simp [intOf]; omega
              · have q4 : ((s[j].toNat : Int) == 42) = false := by rw [beq_eq_false_iff_ne]; omega
                have Hn := Lib.hid (show ¬ ((bts s).getD j 0 = 42 ∧ (bts s).getD (j + 1) 0 = 47) from fun h => u8_ne h3 (by decide) (by rw [← Hb1.out]; exact h.1))
                clear h3
                go_wp2_with fail
                go_roundw
                case rel =>
                  refine ⟨j + 1, by go_num, by omega, by omega, fun k h1 h2 => ?_, trivial⟩
                  by_cases hk : k = j
                  · subst hk; exact Hn.out
                  · exact Hall.out k h1 (by omega)
                case measure => simp [intOf]; omega
            · go_wp2_with fail
              go_ret
              refine ⟨?_, rfl⟩
              have : V = i := by
                rw [← HV.out]
                refine rmk_unended (by rw [bts_len]; exact hlt) (by rw [Hg.out]; exact u8_eq H47.out (by decide)) (by rw [Hb.out]; exact u8_eq H42.out (by decide)) (fun k h1 h2 => Hall.out k h1 ?_)
                rw [bts_len] at h2
                omega
              rw [this]
              rfl
        · have q3 : ((s[i + 1].toNat : Int) != 42) = true := by rw [bne_iff_ne]; omega
          have hv := No.out (.inr (.inr (by rw [Hb.out]; exact u8_ne h42 (by decide))))
          have Hv := Lib.hid hv
          clear h42 hv
          go_wp2_with fail
          go_ret
          exact ⟨by rw [Hv.out]; rfl, rfl⟩
      · have q2 : ((s[i].toNat : Int) != 47) = true := by rw [bne_iff_ne]; omega
        have hv := No.out (.inr (.inl h47))
        have Hv := Lib.hid hv
        clear h47 hv
        go_wp2_with fail
        go_ret
        exact ⟨by rw [Hv.out]; rfl, rfl⟩
    · have hv := No.out (.inl (by omega))
      have Hv := Lib.hid hv
      clear hv
      go_wp2_with fail
      go_ret
      exact ⟨by rw [Hv.out]; rfl, rfl⟩

set_option maxHeartbeats 2000000 in
theorem refQuoted_any (s : ByteArray) (i : Nat) (w : World) (hi : i < s.size) (hs : s.size ≤ 1000000) :
    Calls Try.prog 32 #[.string s, .int .i64 i] w (fun e w' => e = .returned (.int .i64 (qtd (bts s) i : Nat)) ∧ w' = w) := by
  generalize hV : qtd (bts s) i = V
  have HV := Lib.hid hV
  clear hV
  go_enter Try.func32, Try.ntmps32
  go_wp2_with fail
  go_loopw [5] (fun k wr => ∃ j : Nat, k = .int .i64 j ∧ i + 1 ≤ j ∧ j ≤ s.size ∧ (∀ k, i + 1 ≤ k → k < j → isIn ((bts s).getD k 0).toNat = true) ∧ wr = w) (fun k _ => s.size - (intOf k).toNat)
  case atStart => exact ⟨i + 1, by simp, Nat.le_refl _, by omega, fun k h1 h2 => by omega, rfl⟩
  case round =>
    obtain ⟨j, rfl, hj1, hj2, hall, rfl⟩ := hrel
    have hq : (j = s.size ∨ isIn ((bts s).getD j 0).toNat = false) → V = if j = i + 1 ∨ j = s.size ∨ (bts s).getD j 0 ≠ 39 then i else j + 1 := fun he => by
      rw [← HV.out, qtd_at (by rw [bts_len]; exact hi) hj1 (by rw [bts_len]; exact hj2) (by rw [bts_len]; exact he) hall, bts_len]
    have Hall := Lib.hid hall
    have Hq := Lib.hid hq
    clear hall hq
    by_cases hlt : j < s.size
    · have hb := bts_get s hlt
      have Hb := Lib.hid hb
      clear hb
      by_cases h39 : s[j].toNat = 39
      · have q1 : ((s[j].toNat : Int) == 39) = true := by rw [h39]; rfl
        have hv := Hq.out (.inr (by rw [Hb.out, h39]; rfl))
        rw [Hb.out, u8_eq h39 (by decide)] at hv
        by_cases h1 : j = i + 1
        · have q2 : ((j : Int) == (i : Int) + 1) = true := by rw [h1]; simp
          rw [if_pos (.inl h1)] at hv
          have Hv := Lib.hid hv
          clear h39 hv h1
          go_wp2_with fail
          go_ret
          exact ⟨by rw [Hv.out]; rfl, rfl⟩
        · have q2 : ((j : Int) == (i : Int) + 1) = false := by rw [beq_eq_false_iff_ne]; omega
          rw [if_neg (by simp; omega)] at hv
          have Hv := Lib.hid hv
          clear h39 hv h1
          go_wp2_with fail
          go_ret
          exact ⟨by rw [Hv.out, Int.natCast_add]; rfl, rfl⟩
      · have q1 : ((s[j].toNat : Int) == 39) = false := by rw [beq_eq_false_iff_ne]; omega
        have hbad : isIn s[j].toNat = false → V = i := fun h => by
          rw [Hq.out (.inr (by rw [Hb.out]; exact h)), if_pos (.inr (.inr (by rw [Hb.out]; exact u8_ne h39 (by decide))))]
        have Hbad := Lib.hid hbad
        clear hbad
        by_cases h32 : s[j].toNat < 32
        · have hv := Hbad.out (by unfold isIn; simp; omega)
          have Hv := Lib.hid hv
          clear h39 hv
          go_wp2_with fail
          go_ret
          exact ⟨by rw [Hv.out]; rfl, rfl⟩
        · by_cases h126 : 126 < s[j].toNat
          · have hv := Hbad.out (by unfold isIn; simp; omega)
            have Hv := Lib.hid hv
            clear h39 hv
            go_wp2_with fail
            go_ret
            exact ⟨by rw [Hv.out]; rfl, rfl⟩
          · by_cases h92 : s[j].toNat = 92
            · have q2 : ((s[j].toNat : Int) == 92) = true := by rw [h92]; rfl
              have hv := Hbad.out (by unfold isIn; simp; omega)
              have Hv := Lib.hid hv
              clear h39 hv h92
              go_wp2_with fail
              go_ret
              exact ⟨by rw [Hv.out]; rfl, rfl⟩
            · have q2 : ((s[j].toNat : Int) == 92) = false := by rw [beq_eq_false_iff_ne]; omega
              have hin : isIn s[j].toNat = true := by unfold isIn; simp; omega
              have Hin := Lib.hid hin
              clear h39 h92 hin
              go_wp2_with fail
              go_roundw
              case rel =>
                refine ⟨j + 1, by go_num, by omega, by omega, fun k h1 h2 => ?_, trivial⟩
                by_cases hk : k = j
                · subst hk; rw [Hb.out]; exact Hin.out
                · exact Hall.out k h1 (by omega)
              case measure => simp [intOf]; omega
    · have hv := Hq.out (.inl (by omega))
      rw [if_pos (.inr (.inl (by omega)))] at hv
      have Hv := Lib.hid hv
      clear hv
      go_wp2_with fail
      go_ret
      exact ⟨by rw [Hv.out]; rfl, rfl⟩

end Go.Proofs.Ytgmoneimfnackaa
