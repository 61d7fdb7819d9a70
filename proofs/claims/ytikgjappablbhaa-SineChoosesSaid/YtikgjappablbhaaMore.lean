/-
  Walks over law17.in, law17.SineMore.
-/
import Derived.Test.YtikgjappablbhaaWakes
import Derived.Test.YtikgjappablbhaaSineLaw
namespace Go.Proofs.Ytikgjappablbhaa
open Go.RowKit

set_option maxHeartbeats 1000000 in
theorem in_any (l : List Nat) (n : Int) (v : Value) (B : Nat) (w : World) (hr : Rd w B (.sl 1 (l.map encN)) v) :
    Calls Try.prog 15 #[v, .int .i64 n] w fun e w' => e = .returned (.bool (decide (∃ x ∈ l, (x : Int) = n))) ∧ w' = w := by
  obtain ⟨A, c, rfl, hc, hn, hm⟩ := hr.sl_form
  rw [List.length_map] at hc hn hr ⊢
  unfold maxLen at hm
  have Hr := Lib.hid hr
  clear hr
  go_enter Try.func15, Try.ntmps15
  go_wp2_with fail
  go_loopw [5] (fun i wr => ∃ k : Nat, k ≤ l.length ∧ i = .int .i64 k ∧ (∀ x ∈ l.take k, (x : Int) ≠ n) ∧ wr = w) (fun i _ => l.length - (intOf i).toNat)
  case atStart => exact ⟨0, Nat.zero_le _, rfl, by simp, rfl⟩
  case round =>
    obtain ⟨k, hk, rfl, hne, rfl⟩ := hrel
    have Hne := Lib.hid hne
    clear hne
    by_cases hlt : k < l.length
    · obtain ⟨ab, off, rfl, hb, c0⟩ := Hr.out.leaf_at hlt
      by_cases heq : (l[k] : Int) = n
      · have hans : decide (∃ x ∈ l, (x : Int) = n) = true := decide_eq_true ⟨l[k], List.getElem_mem hlt, heq⟩
        have Hans := Lib.hid hans
        clear hans
        go_wp2_with fail
        go_ret
        exact ⟨by rw [Hans.out]; rfl, rfl⟩
      · go_wp2_with fail
        go_roundw
        case rel =>
          refine ⟨k + 1, by omega, by go_num, fun x hx => ?_, trivial⟩
          rw [List.take_succ_eq_append_getElem hlt] at hx
          rcases List.mem_append.1 hx with h | h
          · exact Hne.out x h
          · rw [List.mem_singleton.1 h]; exact heq
        case measure => simp [intOf]; omega
    · have hkk : k = l.length := by omega
      subst hkk
      have hans : decide (∃ x ∈ l, (x : Int) = n) = false := decide_eq_false (by
        rintro ⟨x, hx, he⟩
        exact Hne.out x (by rw [List.take_length]; exact hx) he)
      have Hans := Lib.hid hans
      clear hans
      go_wp2_with fail
      go_ret
      exact ⟨by rw [Hans.out]; rfl, rfl⟩

theorem errno_cases (tol dep : Int) : (errno tol dep = 0 ∧ argsOk tol dep = true) ∨ (errno tol dep = 2 ∧ argsOk tol dep = false) := by
  unfold errno
  cases h : argsOk tol dep <;> simp
theorem argsOk_nat {tol dep : Int} (h : argsOk tol dep = true) : ∃ t d : Nat, tol = t ∧ dep = d := by
  unfold argsOk at h
  simp only [Bool.and_eq_true, Bool.or_eq_true, decide_eq_true_eq] at h
  exact ⟨tol.toNat, dep.toNat, by omega, by omega⟩
theorem answer_ok {l : List En} {t d : Nat} (h : argsOk t d = true) : answer l t d = picked l t d := by
  unfold answer
  rw [h]
  simp
theorem picked_len (l : List En) (t d : Nat) : (picked l t d).length ≤ l.length := by
  unfold picked
  have := List.length_filter_le (fun i => allIn l t || (final l t d).1 i) (List.range l.length)
  rwa [List.length_range] at this
theorem answer_len (l : List En) (t d : Int) : (answer l t d).length ≤ l.length := by
  unfold answer
  split
  · exact picked_len _ _ _
  · simp

/-- What is checked of two answers. -/
def moreOk (t m d d2 : Int) : Bool := (decide (m = 0) || (decide (0 < t) && decide (t ≤ m))) && !(!decide (d2 = 0) && (decide (d = 0) || decide (d2 < d)) && !decide (m = 0))

set_option maxRecDepth 100000 in
set_option maxHeartbeats 2000000 in
theorem more_any (l : List En) (tol mo dep de : Int) (v : Value) (B : Nat) (w : World) (hr : Rd w B (.sl 7 (l.map encEn)) v) (hB : B ≤ w.heap.size) :
    Calls Try.prog 5 #[v, .int .i64 tol, .int .i64 mo, .int .i64 dep, .int .i64 de] w (fun e w' => e = .returned (.bool true) ∧ Below w.heap.size w w') := by
  obtain ⟨A, c, rfl, hc, hn, hm⟩ := hr.sl_form
  rw [List.length_map] at hc hn hr ⊢
  have Hr := Lib.hid hr
  clear hr
  unfold maxLen at hm
  have he1 := errno_cases tol dep
  have he2 := errno_cases mo de
  generalize hx1 : errno tol dep = x1 at he1
  generalize hx2 : errno mo de = x2 at he2
  have Hx1 := Lib.hid hx1
  have Hx2 := Lib.hid hx2
  clear hx1 hx2
  go_enter Try.func5, Try.ntmps5
  go_upto_region 4 with (first
    | (go_at_call 8
       refine (great14_any l _ B _ Hr.out hB).mono ?_
       rintro e w1 ⟨g, rfl, hg, hb1⟩
       have Hg := Lib.hid hg
       have Hb1 := Lib.hid hb1
       have hz1 := hb1.size
       clear hg hb1
       cases g)
    | (go_at_call 13
       refine (progChoose_any l tol dep _ B _ (Hr.out.low Hb1.out hB) (by omega) (Hg.out (by simp))).mono ?_
       rintro e w2 ⟨va, rfl, hoa, hb2⟩
       rw [Hx1.out]
       obtain ⟨Aa, ca, hva, hca, hma⟩ := hoa.form
       rw [List.length_map] at hva hca
       subst hva
       have Hoa := Lib.hid hoa
       have Hb2 := Lib.hid hb2
       have hz2 := hb2.size
       clear hoa hb2)
    | (go_at_call 9
       refine (wakes_any _).mono ?_
       rintro e w9 ⟨rfl, hb9⟩))
  rotate_left
  · go_ret
    exact ⟨rfl, Hb1.out.trans (hb9.mono hz1)⟩
  have Hf := Lib.hid (Hg.out (by simp))
  clear Hg
  go_upto_region 5 with (go_at_call 13
                         refine (progChoose_any l mo de _ B _ ((Hr.out.low Hb1.out hB).low Hb2.out (by omega)) (by omega) Hf.out).mono ?_
                         rintro e w3 ⟨vb, rfl, hob, hb3⟩
                         rw [Hx2.out]
                         obtain ⟨Ab, cb, hvb, hcb, hmb⟩ := hob.form
                         rw [List.length_map] at hvb hcb
                         subst hvb
                         have Hob := Lib.hid hob
                         have Hb3 := Lib.hid hb3
                         have hz3 := hb3.size
                         clear hob hb3)
  have hl3 := Hf.out.1
  have hla := answer_len l tol dep
  have hlb := answer_len l mo de
  have HRa := Lib.hid (own_rd_n (Hoa.out.low Hb3.out) (by omega))
  have HRb := Lib.hid (own_rd_n Hob.out (by omega))
  have HB3 := Lib.hid ((Hb1.out.trans (Hb2.out.mono hz1)).trans (Hb3.out.mono (by omega)))
  have HR3 := Lib.hid ((Hr.out.low HB3.out hB))
  clear Hoa Hob Hr Hb1 Hb2 Hb3
  rcases he1 with ⟨rfl, h1⟩ | ⟨rfl, h1⟩
  · rcases he2 with ⟨rfl, h2⟩ | ⟨rfl, h2⟩
    · obtain ⟨t, d, rfl, rfl⟩ := argsOk_nat h1
      obtain ⟨m, d2, rfl, rfl⟩ := argsOk_nat h2
      rw [answer_ok h1] at HRa hca hla ⊢
      rw [answer_ok h2] at HRb hcb hlb ⊢
      clear h1 h2 Hx1 Hx2
      have hga : ∀ i (h : i < l.length), isGoal l[i].role = true → i ∈ picked l t d := fun i h hg => goal_picked h hg
      have hgb : ∀ i (h : i < l.length), isGoal l[i].role = true → i ∈ picked l m d2 := fun i h hg => goal_picked h hg
      have hmo : moreOk t m d d2 = true → ∀ i ∈ picked l t d, i ∈ picked l m d2 := fun h i hi => by
        unfold moreOk at h
        simp only [Bool.and_eq_true, Bool.or_eq_true, Bool.not_eq_true', Bool.and_eq_false_iff, Bool.or_eq_false_iff, decide_eq_true_eq, decide_eq_false_iff_not, Bool.not_eq_false'] at h
        exact picked_mono (by omega) (by omega) hi
      have Hga := Lib.hid hga
      have Hgb := Lib.hid hgb
      have Hmo := Lib.hid hmo
      clear hga hgb hmo
      generalize picked l t d = a at Hga Hmo HRa hca hla
      generalize picked l m d2 = b at Hgb Hmo HRb hcb hlb
      unfold maxLen at hma hmb
      go_wp2_with fail
      go_loopw [15] (fun i wr => ∃ k : Nat, k ≤ l.length ∧ i = .int .i64 k ∧ wr = w3) (fun i _ => l.length - (intOf i).toNat)
      case atStart => exact ⟨0, Nat.zero_le _, rfl, rfl⟩
      case round =>
        obtain ⟨k, hk, rfl, rfl⟩ := hrel
        by_cases hlt : k < l.length
        · obtain ⟨ab, off, o, v, tt, aa, rfl, hb, c0, c1, c2, c3, c4, c5, c6, hrd⟩ := HR3.out.en_at hlt
          clear c0 c1 c3 c4 c5 c6 hrd
          have hia : isGoal l[k].role = true → decide (∃ x ∈ a, (x : Int) = (k : Int)) = true := fun hg => decide_eq_true ⟨k, Hga.out k hlt hg, rfl⟩
          have hib : isGoal l[k].role = true → decide (∃ x ∈ b, (x : Int) = (k : Int)) = true := fun hg => decide_eq_true ⟨k, Hgb.out k hlt hg, rfl⟩
          have Hia := Lib.hid hia
          have Hib := Lib.hid hib
          clear hia hib
          go_wp2_with (go_at_call 15
                       refine (in_any _ _ _ _ _ (by first | exact HRa.out | exact HRb.out)).mono ?_
                       rintro e w5 ⟨rfl, rfl⟩
                       first | rw [Hia.out (by unfold isGoal; simp [*])] | rw [Hib.out (by unfold isGoal; simp [*])])
          all_goals
            refine ⟨⟨k + 1, by omega, by go_num, trivial⟩, ?_⟩
            simp [intOf]; omega
        · go_upto_region 12 with fail
          go_cut [16] from 127 (fun b w' => ∃ wd, b = .bool wd ∧ wd = (decide ((m : Int) = 0) || (decide ((0 : Int) < t) && decide ((t : Int) ≤ m))) ∧ w' = wr)
          · by_cases h0 : (m : Int) = 0
            · go_wp2_with fail
              go_meet
              refine ⟨_, rfl, Bool.eq_iff_iff.2 ?_, rfl⟩
              simp
              try omega
            · by_cases h1 : (0 : Int) < t
              · by_cases h2 : (t : Int) ≤ m
                · go_wp2_with fail
                  go_meet
                  refine ⟨_, rfl, Bool.eq_iff_iff.2 ?_, rfl⟩
                  simp
                  try omega
                · go_wp2_with fail
                  go_meet
                  refine ⟨_, rfl, Bool.eq_iff_iff.2 ?_, rfl⟩
                  simp
                  try omega
              · go_wp2_with fail
                go_meet
                refine ⟨_, rfl, Bool.eq_iff_iff.2 ?_, rfl⟩
                simp
                try omega
          obtain ⟨wd, rfl, hwd, rfl⟩ := hcut
          have Hwd := Lib.hid hwd
          clear hwd
          go_upto_region 13 with fail
          go_cut [111] from 127 (fun b w' => ∃ wk, b = .bool wk ∧ (!wk) = moreOk t m d d2 ∧ w' = wc)
          · cases wd with
            | false =>
              go_wp2_with fail
              go_meet
              refine ⟨true, rfl, Bool.eq_iff_iff.2 ?_, rfl⟩
              unfold moreOk
              rw [← Hwd.out]
              simp
            | true =>
              cases hA : ((d2 : Int) != 0) with
              | false =>
                go_wp2_with fail
                go_meet
                refine ⟨false, rfl, Bool.eq_iff_iff.2 ?_, rfl⟩
                unfold moreOk
                rw [← Hwd.out]
                simp at hA
                simp
                try omega
              | true =>
                cases hD : ((m : Int) != 0) with
                | false =>
                  cases hB : ((d : Int) == 0) with
                  | true =>
                    go_wp2_with fail
                    go_meet
                    refine ⟨false, rfl, Bool.eq_iff_iff.2 ?_, rfl⟩
                    unfold moreOk
                    rw [← Hwd.out]
                    simp at hA hD hB
                    simp
                    try omega
                  | false =>
                    by_cases hC : (d2 : Int) < d
                    · go_wp2_with fail
                      go_meet
                      refine ⟨false, rfl, Bool.eq_iff_iff.2 ?_, rfl⟩
                      unfold moreOk
                      rw [← Hwd.out]
                      simp at hA hD hB
                      simp
                      try omega
                    · go_wp2_with fail
                      go_meet
                      refine ⟨false, rfl, Bool.eq_iff_iff.2 ?_, rfl⟩
                      unfold moreOk
                      rw [← Hwd.out]
                      simp at hA hD hB
                      simp
                      try omega
                | true =>
                  cases hB : ((d : Int) == 0) with
                  | true =>
                    go_wp2_with fail
                    go_meet
                    refine ⟨true, rfl, Bool.eq_iff_iff.2 ?_, rfl⟩
                    unfold moreOk
                    rw [← Hwd.out]
                    simp at hA hD hB
                    simp
                    try omega
                  | false =>
                    by_cases hC : (d2 : Int) < d
                    · go_wp2_with fail
                      go_meet
                      refine ⟨true, rfl, Bool.eq_iff_iff.2 ?_, rfl⟩
                      unfold moreOk
                      rw [← Hwd.out]
                      simp at hA hD hB
                      simp
                      try omega
                    · go_wp2_with fail
                      go_meet
                      refine ⟨false, rfl, Bool.eq_iff_iff.2 ?_, rfl⟩
                      unfold moreOk
                      rw [← Hwd.out]
                      simp at hA hD hB
                      simp
                      try omega
          obtain ⟨wk, rfl, hwk, rfl⟩ := hcut
          have Hwk := Lib.hid hwk
          clear hwk
          cases wk with
          | true =>
            go_wp2_with (go_at_call 9
                         refine (wakes_any _).mono ?_
                         rintro e w9 ⟨rfl, hb9⟩)
            go_ret
            exact ⟨rfl, HB3.out.trans (hb9.mono (by omega))⟩
          | false =>
            have Hsub := Lib.hid (Hmo.out Hwk.out.symm)
            go_wp2_with fail
            go_loopw [17] (fun i w' => ∃ k : Nat, k ≤ a.length ∧ i = .int .i64 k ∧ w' = wc) (fun i _ => a.length - (intOf i).toNat)
            case atStart => exact ⟨0, Nat.zero_le _, rfl, rfl⟩
            case round =>
              obtain ⟨k, hk, rfl, rfl⟩ := hrel
              by_cases hlt : k < a.length
              · obtain ⟨ab, off, rfl, hb, c0⟩ := HRa.out.leaf_at hlt
                have hin : decide (∃ x ∈ b, (x : Int) = (a[k] : Int)) = true := decide_eq_true ⟨a[k], Hsub.out _ (List.getElem_mem hlt), rfl⟩
                have Hin := Lib.hid hin
                clear hin
                go_wp2_with (go_at_call 15
                             refine (in_any _ _ _ _ _ (by exact HRb.out)).mono ?_
                             rintro e w5 ⟨rfl, rfl⟩
                             rw [Hin.out])
                go_roundw
                case rel => exact ⟨k + 1, by omega, by go_num, trivial⟩
                case measure => simp [intOf]; omega
              · go_wp2_with (go_at_call 9
                             refine (wakes_any _).mono ?_
                             rintro e w9 ⟨rfl, hb9⟩)
                go_ret
                exact ⟨rfl, HB3.out.trans (hb9.mono (by omega))⟩
    · go_wp2_with (go_at_call 9
                   refine (wakes_any _).mono ?_
                   rintro e w9 ⟨rfl, hb9⟩)
      go_ret
      exact ⟨rfl, HB3.out.trans (hb9.mono (by omega))⟩
  · go_wp2_with (go_at_call 9
                 refine (wakes_any _).mono ?_
                 rintro e w9 ⟨rfl, hb9⟩)
    go_ret
    exact ⟨rfl, HB3.out.trans (hb9.mono (by omega))⟩

end Go.Proofs.Ytikgjappablbhaa
