/-
  Walks over the document's answer: one.
-/
import Derived.Test.YtgmoneimfnackaaTokI
namespace Go.Proofs.Ytgmoneimfnackaa
open Go.RowKit

/-- The document's token at a place: where it ends, and the token, if it is one. -/
def RefOne (s : ByteArray) (i : Nat) (w : World) (e : Ending) (w' : World) : Prop :=
  ∃ t, e = .returned (.tuple #[tkV t, .int .i64 (oneT s i).2]) ∧ ((oneT s i).2 ≠ i → t = (oneT s i).1) ∧ Below w.heap.size w w'

set_option maxHeartbeats 8000000 in
theorem refOne_any (s : ByteArray) (i : Nat) (w : World) (hi : i < s.size) (hs : s.size ≤ 1000000) :
    Calls Try.prog 25 #[.string s, .int .i64 i] w (RefOne s i w) := by
  have hq : RefOne s i w = fun e w' => ∃ t, e = .returned (.tuple #[tkV t, .int .i64 (oneT s i).2]) ∧ ((oneT s i).2 ≠ i → t = (oneT s i).1) ∧ Below w.heap.size w w' := rfl
  rw [hq]
  clear hq
  generalize hV : oneT s i = V
  have hc := bts_get s hi
  have hone : V = (let l := bts s
      let c := s[i].toNat
      if isSmall c then (⟨1, s.extract i (runTo isWord l i), i⟩, runTo isWord l i)
      else if isGreat c then (⟨2, s.extract i (runTo isWord l i), i⟩, runTo isWord l i)
      else if isDigit c then (⟨5, s.extract i (runTo isDigit l i), i⟩, runTo isDigit l i)
      else if c = 36 then (if i + 1 < s.size ∧ isSmall (l.getD (i + 1) 0).toNat = true then (⟨3, s.extract i (runTo isWord l (i + 1)), i⟩, runTo isWord l (i + 1)) else (⟨3, s.extract i i, i⟩, i))
      else if c = 39 then (⟨4, if i < qtd l i then s.extract (i + 1) (qtd l i - 1) else ⟨#[]⟩, i⟩, qtd l i)
      else (⟨6, s.extract i (i + sgn (l.drop i)), i⟩, i + sgn (l.drop i))) := by
    rw [← hV]
    unfold oneT
    simp only [hc]
  have Hone := Lib.hid hone
  clear hV hone hc
  go_enter Try.func25, Try.ntmps25
  have hle := runTo_le isWord (bts s) (i := i) (by rw [bts_len]; omega)
  rw [bts_len] at hle
  obtain ⟨e, he⟩ : ∃ e, runTo isWord (bts s) i = e := ⟨_, rfl⟩
  rw [he] at hle
  have He := Lib.hid he
  obtain ⟨hle1, hle2⟩ := hle
  clear he
  by_cases hA : 97 ≤ s[i].toNat ∧ s[i].toNat ≤ 122
  · obtain ⟨hA1, hA2⟩ := hA
    have hv : V = (⟨1, s.extract i e, i⟩, e) := by
      rw [Hone.out]
      simp only [He.out, (show isSmall s[i].toNat = true by unfold isSmall; simp; omega), if_true]
    have Hv := Lib.hid hv
    clear hv Hone
    go_wp2_with (first
      | (go_at_call 30
         refine (refWord_any s i _ (by omega) hs).mono ?_
         rintro e1 w1 ⟨rfl, rfl⟩
         rw [He.out]))
    refine bodyPost_ret (v := .tuple #[.agg #[.int .i64 1, .string (s.extract i e), .int .i64 i], .int .i64 e]) (by simp [results, Try.results25, go_sem]) rfl ⟨⟨1, s.extract i e, i⟩, ?_, ?_, below_box w _⟩
    · rw [Hv.out]; rfl
    · rw [Hv.out]; exact fun _ => rfl
  · have hS : isSmall s[i].toNat = false := by unfold isSmall; simp; omega
    by_cases hB : 65 ≤ s[i].toNat ∧ s[i].toNat ≤ 90
    · obtain ⟨hB1, hB2⟩ := hB
      have hv : V = (⟨2, s.extract i e, i⟩, e) := by
        rw [Hone.out]
        simp only [He.out, hS, (show isGreat s[i].toNat = true by unfold isGreat; simp; omega), if_true, Bool.false_eq_true, if_false]
      have Hv := Lib.hid hv
      clear hv Hone hS
      have hA3 : s[i].toNat < 97 := by omega
      clear hA
      go_wp2_with (first
        | (go_at_call 30
           refine (refWord_any s i _ (by omega) hs).mono ?_
           rintro e1 w1 ⟨rfl, rfl⟩
           rw [He.out]))
      refine bodyPost_ret (v := .tuple #[.agg #[.int .i64 2, .string (s.extract i e), .int .i64 i], .int .i64 e]) (by simp [results, Try.results25, go_sem]) rfl ⟨⟨2, s.extract i e, i⟩, ?_, ?_, below_box w _⟩
      · rw [Hv.out]; rfl
      · rw [Hv.out]; exact fun _ => rfl
    · have hG : isGreat s[i].toNat = false := by unfold isGreat; simp; omega
      by_cases hC : s[i].toNat = 36
      · have hD : isDigit s[i].toNat = false := by unfold isDigit; simp; omega
        have hA3 : s[i].toNat < 97 := by omega
        have hB3 : s[i].toNat < 65 := by omega
        have q1 : ((s[i].toNat : Int) == 36) = true := by rw [hC]; rfl
        have hone2 : V = (if i + 1 < s.size ∧ isSmall ((bts s).getD (i + 1) 0).toNat = true then (⟨3, s.extract i (runTo isWord (bts s) (i + 1)), i⟩, runTo isWord (bts s) (i + 1)) else (⟨3, s.extract i i, i⟩, i)) := by
          rw [Hone.out]
          simp only [hC, (show isSmall 36 = false from rfl), (show isGreat 36 = false from rfl), (show isDigit 36 = false from rfl), if_true, Bool.false_eq_true, if_false]
        clear hS hG hD hA hB hC He hle1 hle2 e
        have Hone2 := Lib.hid hone2
        clear hone2 Hone
        by_cases h5 : i + 1 < s.size
        · have hg := bts_get s h5
          by_cases h6 : 97 ≤ s[i + 1].toNat ∧ s[i + 1].toNat ≤ 122
          · obtain ⟨h61, h62⟩ := h6
            have hle := runTo_le isWord (bts s) (i := i + 1) (by rw [bts_len]; omega)
            rw [bts_len] at hle
            obtain ⟨e, he⟩ : ∃ e, runTo isWord (bts s) (i + 1) = e := ⟨_, rfl⟩
            rw [he] at hle
            obtain ⟨hle1, hle2⟩ := hle
            have hv : V = (⟨3, s.extract i e, i⟩, e) := by
              rw [Hone2.out, if_pos ⟨h5, by rw [hg]; unfold isSmall; simp; omega⟩, he]
            have Hv := Lib.hid hv
            have He := Lib.hid he
            clear hv Hone2 he hg
            go_wp2_with (first
              | (go_at_call 30
                 refine (refWord_any s (i + 1) _ (by omega) hs).mono ?_
                 rintro e1 w1 ⟨rfl, rfl⟩
                 rw [He.out]))
            refine bodyPost_ret (v := .tuple #[.agg #[.int .i64 3, .string (s.extract i e), .int .i64 i], .int .i64 e]) (by simp [results, Try.results25, go_sem]) rfl ⟨⟨3, s.extract i e, i⟩, ?_, ?_, below_box w _⟩
            · rw [Hv.out]; rfl
            · rw [Hv.out]; exact fun _ => rfl
          · have hv : V = (⟨3, s.extract i i, i⟩, i) := by
              rw [Hone2.out, if_neg (by rw [hg]; unfold isSmall; simp; omega)]
            have Hv := Lib.hid hv
            clear hv Hone2 hg
            rcases (by omega : s[i + 1].toNat < 97 ∨ 122 < s[i + 1].toNat) with h7 | h7
            · clear h6
              go_wp2_with fail
              refine bodyPost_ret (v := .tuple #[.agg #[.int .i64 3, .string (s.extract i i), .int .i64 i], .int .i64 i]) (by simp [results, Try.results25, go_sem]) rfl ⟨⟨3, s.extract i i, i⟩, ?_, ?_, below_box w _⟩
              · rw [Hv.out]; rfl
              · rw [Hv.out]; exact fun _ => rfl
            · have h8 : 97 ≤ s[i + 1].toNat := by omega
              clear h6
              go_wp2_with fail
              refine bodyPost_ret (v := .tuple #[.agg #[.int .i64 3, .string (s.extract i i), .int .i64 i], .int .i64 i]) (by simp [results, Try.results25, go_sem]) rfl ⟨⟨3, s.extract i i, i⟩, ?_, ?_, below_box w _⟩
              · rw [Hv.out]; rfl
              · rw [Hv.out]; exact fun _ => rfl
        · have hv : V = (⟨3, s.extract i i, i⟩, i) := by
            rw [Hone2.out, if_neg (by omega)]
          have Hv := Lib.hid hv
          clear hv Hone2
          go_wp2_with fail
          refine bodyPost_ret (v := .tuple #[.agg #[.int .i64 3, .string (s.extract i i), .int .i64 i], .int .i64 i]) (by simp [results, Try.results25, go_sem]) rfl ⟨⟨3, s.extract i i, i⟩, ?_, ?_, below_box w _⟩
          · rw [Hv.out]; rfl
          · rw [Hv.out]; exact fun _ => rfl
      · have q1 : ((s[i].toNat : Int) == 36) = false := by rw [beq_eq_false_iff_ne]; omega
        by_cases hD : 48 ≤ s[i].toNat ∧ s[i].toNat ≤ 57
        · have hA3 : s[i].toNat < 97 := by omega
          have hB3 : s[i].toNat < 65 := by omega
          have hD1 : isDigit s[i].toNat = true := by unfold isDigit; simp; omega
          have hv : V = (⟨5, s.extract i (runTo isDigit (bts s) i), i⟩, runTo isDigit (bts s) i) := by
            rw [Hone.out]
            simp only [hS, hG, hD1, if_true, Bool.false_eq_true, if_false]
          have Hv := Lib.hid hv
          have HD := Lib.hid hD1
          clear hv Hone hS hG hA hB hC hD hD1 He hle1 hle2 e
          go_wp2_with (first
            | (go_at_call 31
               refine (refDigit_any s[i].toNat _).mono ?_
               rintro e1 w1 ⟨rfl, rfl⟩
               rw [HD.out]))
          obtain ⟨wo, hwo⟩ : ∃ wo, w.alloc (.cells #[.int .i64 0, .string ⟨#[]⟩, .int .i64 0] 35) = wo := ⟨_, rfl⟩
          go_loopw [8] (fun k wr => ∃ j : Nat, k = .int .i64 j ∧ i ≤ j ∧ j ≤ s.size ∧ (∀ k, i ≤ k → k < j → isDigit ((bts s).getD k 0).toNat = true) ∧ wr = wo) (fun k _ => s.size - (intOf k).toNat)
          case atStart => exact ⟨i, rfl, Nat.le_refl _, by omega, fun k h1 h2 => by omega, hwo⟩
          case round =>
            obtain ⟨j, rfl, hj1, hj2, hall, rfl⟩ := hrel
            have Hall := Lib.hid hall
            clear hall
            by_cases hlt : j < s.size
            · have hb := bts_get s hlt
              have Hb := Lib.hid hb
              clear hb
              cases hp : isDigit s[j].toNat with
              | true =>
                have Hp := Lib.hid hp
                clear hp
                go_wp2_with (go_at_call 31
                             refine (refDigit_any s[j].toNat _).mono ?_
                             rintro e w1 ⟨rfl, rfl⟩
                             rw [Hp.out])
                go_roundw
                case rel =>
                  refine ⟨j + 1, by go_num, by omega, by omega, fun k h1 h2 => ?_, trivial⟩
                  by_cases hk : k = j
                  · subst hk; rw [Hb.out]; exact Hp.out
                  · exact Hall.out k h1 (by omega)
                case measure => simp [intOf]; omega
              | false =>
                have Hp := Lib.hid hp
                clear hp
                have hrt := runTo_eq (j := j) (n := j - i) (by rw [bts_len]; exact hj2) (.inr (by rw [Hb.out]; exact Hp.out)) (by omega) Hall.out
                have Hrt := Lib.hid hrt
                clear hrt
                subst hwo
                go_wp2_with (go_at_call 31
                             refine (refDigit_any s[j].toNat _).mono ?_
                             rintro e w1 ⟨rfl, rfl⟩
                             rw [Hp.out])
                refine bodyPost_ret (v := .tuple #[.agg #[.int .i64 5, .string (s.extract i j), .int .i64 i], .int .i64 j]) (by simp [results, Try.results25, go_sem]) rfl ⟨⟨5, s.extract i j, i⟩, ?_, ?_, below_box w _⟩
                · rw [Hv.out, Hrt.out]; rfl
                · rw [Hv.out, Hrt.out]; exact fun _ => rfl
            · have hjj : j = s.size := by omega
              have hrt := runTo_eq (j := j) (n := j - i) (by rw [bts_len]; exact hj2) (.inl (by rw [bts_len]; exact hjj)) (by omega) Hall.out
              have Hrt := Lib.hid hrt
              clear hrt hjj
              subst hwo
              go_wp2_with fail
              refine bodyPost_ret (v := .tuple #[.agg #[.int .i64 5, .string (s.extract i j), .int .i64 i], .int .i64 j]) (by simp [results, Try.results25, go_sem]) rfl ⟨⟨5, s.extract i j, i⟩, ?_, ?_, below_box w _⟩
              · rw [Hv.out, Hrt.out]; rfl
              · rw [Hv.out, Hrt.out]; exact fun _ => rfl
        · have hD1 : isDigit s[i].toNat = false := by unfold isDigit; simp; omega
          by_cases hE : s[i].toNat = 39
          · have hA3 : s[i].toNat < 97 := by omega
            have hB3 : s[i].toNat < 65 := by omega
            have q2 : ((s[i].toNat : Int) == 39) = true := by rw [hE]; rfl
            obtain ⟨en, hen⟩ : ∃ en, qtd (bts s) i = en := ⟨_, rfl⟩
            have hqe : en = i ∨ (i + 1 < en ∧ en ≤ s.size) := by
              rw [← hen]
              unfold qtd
              have hle := runTo_le isIn (bts s) (i := i + 1) (by rw [bts_len]; omega)
              rw [bts_len] at hle
              split
              · exact .inl rfl
              · rename_i h
                rw [bts_len] at h
                omega
            have hv : V = (⟨4, if i < en then s.extract (i + 1) (en - 1) else ⟨#[]⟩, i⟩, en) := by
              rw [Hone.out]
              simp only [hE, (show isSmall 39 = false from rfl), (show isGreat 39 = false from rfl), (show isDigit 39 = false from rfl), (show ¬ (39 : Nat) = 36 by decide), hen, if_true, Bool.false_eq_true, if_false]
            have Hv := Lib.hid hv
            have HD := Lib.hid hD1
            have Hen := Lib.hid hen
            clear hv Hone hS hG hA hB hC hD hD1 He hle1 hle2 e hE hen
            by_cases h7 : en = i
            · have q3 : ((en : Int) == (i : Int)) = true := by rw [h7]; simp
              go_wp2_with (first
                | (go_at_call 31
                   refine (refDigit_any s[i].toNat _).mono ?_
                   rintro e1 w1 ⟨rfl, rfl⟩
                   rw [HD.out])
                | (go_at_call 32
                   refine (refQuoted_any s i _ hi hs).mono ?_
                   rintro e1 w1 ⟨rfl, rfl⟩
                   rw [Hen.out]))
              refine bodyPost_ret (v := .tuple #[.agg #[.int .i64 0, .string ⟨#[]⟩, .int .i64 0], .int .i64 i]) (by simp [results, Try.results25, go_sem]) rfl ⟨⟨0, ⟨#[]⟩, 0⟩, ?_, ?_, below_box w _⟩
              · rw [Hv.out, h7]; rfl
              · rw [Hv.out]; exact fun h => absurd h7 h
            · have q3 : ((en : Int) == (i : Int)) = false := by rw [beq_eq_false_iff_ne]; omega
              have h8 : i + 1 < en := by omega
              have h9 : en ≤ s.size := by omega
              clear hqe
              go_wp2_with (first
                | (go_at_call 31
                   refine (refDigit_any s[i].toNat _).mono ?_
                   rintro e1 w1 ⟨rfl, rfl⟩
                   rw [HD.out])
                | (go_at_call 32
                   refine (refQuoted_any s i _ hi hs).mono ?_
                   rintro e1 w1 ⟨rfl, rfl⟩
                   rw [Hen.out]))
              refine bodyPost_ret (v := .tuple #[.agg #[.int .i64 4, .string (s.extract (i + 1) (en - 1)), .int .i64 i], .int .i64 en]) (by simp [results, Try.results25, go_sem]) rfl ⟨⟨4, s.extract (i + 1) (en - 1), i⟩, ?_, ?_, below_box w _⟩
              · rw [Hv.out]; rfl
              · rw [Hv.out, if_pos (by omega)]; exact fun _ => rfl
          · have q2 : ((s[i].toNat : Int) == 39) = false := by rw [beq_eq_false_iff_ne]; omega
            have hfr := bts_from s i
            have hv : V = (⟨6, s.extract i (i + sgn ((bts s).drop i)), i⟩, i + sgn ((bts s).drop i)) := by
              rw [Hone.out]
              simp only [hS, hG, hD1, hC, hE, Bool.false_eq_true, if_false]
            rw [← hfr] at hv
            have hsz : (s.extract i s.size).size = s.size - i := by simp
            have hsl := sgn_le (bts (s.extract i s.size))
            rw [bts_len] at hsl
            have hsl : sgn (bts (s.extract i s.size)) ≤ (s.extract i s.size).size := by
              rcases hsl with h | h
              · exact h
              · have := congrArg List.length h; rw [bts_len] at this; simp at this; omega
            generalize hr : s.extract i s.size = r at hsz hsl hv
            obtain ⟨n, hn⟩ : ∃ n, sgn (bts r) = n := ⟨_, rfl⟩
            rw [hn] at hsl hv
            have Hn := Lib.hid hn
            have Hv := Lib.hid hv
            have HD := Lib.hid hD1
            have hr0 : 0 < r.size := by omega
            have hrs : r.size ≤ 1000000 := by omega
            have hin : i + n ≤ s.size := by omega
            clear hsz hfr hn hv Hone hS hG hD1 hC hE hD
            rcases (by omega : s[i].toNat < 65 ∨ (90 < s[i].toNat ∧ s[i].toNat < 97) ∨ 122 < s[i].toNat) with h7 | ⟨h7, h8⟩ | h7
            · have h8 : s[i].toNat < 97 := by omega
              clear hA hB
              go_wp2_with (first
                | (go_at_call 31
                   refine (refDigit_any s[i].toNat _).mono ?_
                   rintro e1 w1 ⟨rfl, rfl⟩
                   rw [HD.out])
                | (go_at_call 33
                   refine (refSign_any r _ hrs).mono ?_
                   rintro e1 w1 ⟨rfl, hb1⟩
                   have bx : w1.heap[w.heap.size]? = some (.cells #[.int .i64 0, .string ⟨#[]⟩, .int .i64 0] 35 (0, 0)) := (hb1.block w.heap.size (by simp)).trans (heap_alloc_new w _)
                   obtain ⟨k0, k1, k2, kf⟩ := box3 bx
                   have Hbx := Lib.hid bx
                   have Hbw := Lib.hid ((below_box w _).trans (hb1.mono (by simp)))
                   clear bx hb1
                   rw [Hn.out]))
              have hbx4 : (((w1.setCell ⟨w.heap.size, 0, none⟩ (.int .i64 6)).setCell ⟨w.heap.size, 1, none⟩ (.string (s.extract i (i + n)))).setCell ⟨w.heap.size, 2, none⟩ (.int .i64 (i : Int))).heap[w.heap.size]? = some (.cells #[.int .i64 6, .string (s.extract i (i + n)), .int .i64 i] 35 (0, 0)) :=
                (heap_setCell_same _ w.heap.size 2 _ _ (.int .i64 i) ((heap_setCell_same _ w.heap.size 1 _ _ (.string (s.extract i (i + n))) ((heap_setCell_same w1 w.heap.size 0 _ _ (.int .i64 6) Hbx.out).trans rfl)).trans rfl)).trans rfl
              have hbw4 : Below w.heap.size w (((w1.setCell ⟨w.heap.size, 0, none⟩ (.int .i64 6)).setCell ⟨w.heap.size, 1, none⟩ (.string (s.extract i (i + n)))).setCell ⟨w.heap.size, 2, none⟩ (.int .i64 (i : Int))) := ((Hbw.out.setCell (by simp) _).setCell (by simp) _).setCell (by simp) _
              generalize (((w1.setCell ⟨w.heap.size, 0, none⟩ (.int .i64 6)).setCell ⟨w.heap.size, 1, none⟩ (.string (s.extract i (i + n)))).setCell ⟨w.heap.size, 2, none⟩ (.int .i64 (i : Int))) = w4 at hbx4 hbw4 ⊢
              obtain ⟨g0, g1, g2, g3⟩ := box3 hbx4
              refine bodyPost_ret (v := .tuple #[.agg #[.int .i64 6, .string (s.extract i (i + n)), .int .i64 i], .int .i64 ((i : Int) + n)]) (by simp [results, Try.results25, go_sem, g0, g1, g2]) rfl ⟨⟨6, s.extract i (i + n), i⟩, ?_, ?_, hbw4⟩
              · rw [Hv.out]
                show _ = Ending.returned (.tuple #[tkV ⟨6, s.extract i (i + n), i⟩, .int .i64 ((i + n : Nat) : Int)])
                rw [Int.natCast_add]
                rfl
              · rw [Hv.out]; exact fun _ => rfl
            · have h9 : 65 ≤ s[i].toNat := by omega
              clear hA hB
              go_wp2_with (first
                | (go_at_call 31
                   refine (refDigit_any s[i].toNat _).mono ?_
                   rintro e1 w1 ⟨rfl, rfl⟩
                   rw [HD.out])
                | (go_at_call 33
                   refine (refSign_any r _ hrs).mono ?_
                   rintro e1 w1 ⟨rfl, hb1⟩
                   have bx : w1.heap[w.heap.size]? = some (.cells #[.int .i64 0, .string ⟨#[]⟩, .int .i64 0] 35 (0, 0)) := (hb1.block w.heap.size (by simp)).trans (heap_alloc_new w _)
                   obtain ⟨k0, k1, k2, kf⟩ := box3 bx
                   have Hbx := Lib.hid bx
                   have Hbw := Lib.hid ((below_box w _).trans (hb1.mono (by simp)))
                   clear bx hb1
                   rw [Hn.out]))
              have hbx4 : (((w1.setCell ⟨w.heap.size, 0, none⟩ (.int .i64 6)).setCell ⟨w.heap.size, 1, none⟩ (.string (s.extract i (i + n)))).setCell ⟨w.heap.size, 2, none⟩ (.int .i64 (i : Int))).heap[w.heap.size]? = some (.cells #[.int .i64 6, .string (s.extract i (i + n)), .int .i64 i] 35 (0, 0)) :=
                (heap_setCell_same _ w.heap.size 2 _ _ (.int .i64 i) ((heap_setCell_same _ w.heap.size 1 _ _ (.string (s.extract i (i + n))) ((heap_setCell_same w1 w.heap.size 0 _ _ (.int .i64 6) Hbx.out).trans rfl)).trans rfl)).trans rfl
              have hbw4 : Below w.heap.size w (((w1.setCell ⟨w.heap.size, 0, none⟩ (.int .i64 6)).setCell ⟨w.heap.size, 1, none⟩ (.string (s.extract i (i + n)))).setCell ⟨w.heap.size, 2, none⟩ (.int .i64 (i : Int))) := ((Hbw.out.setCell (by simp) _).setCell (by simp) _).setCell (by simp) _
              generalize (((w1.setCell ⟨w.heap.size, 0, none⟩ (.int .i64 6)).setCell ⟨w.heap.size, 1, none⟩ (.string (s.extract i (i + n)))).setCell ⟨w.heap.size, 2, none⟩ (.int .i64 (i : Int))) = w4 at hbx4 hbw4 ⊢
              obtain ⟨g0, g1, g2, g3⟩ := box3 hbx4
              refine bodyPost_ret (v := .tuple #[.agg #[.int .i64 6, .string (s.extract i (i + n)), .int .i64 i], .int .i64 ((i : Int) + n)]) (by simp [results, Try.results25, go_sem, g0, g1, g2]) rfl ⟨⟨6, s.extract i (i + n), i⟩, ?_, ?_, hbw4⟩
              · rw [Hv.out]
                show _ = Ending.returned (.tuple #[tkV ⟨6, s.extract i (i + n), i⟩, .int .i64 ((i + n : Nat) : Int)])
                rw [Int.natCast_add]
                rfl
              · rw [Hv.out]; exact fun _ => rfl
            · have h8 : 97 ≤ s[i].toNat := by omega
              have h9 : 65 ≤ s[i].toNat := by omega
              have h10 : 90 < s[i].toNat := by omega
              clear hA hB
              go_wp2_with (first
                | (go_at_call 31
                   refine (refDigit_any s[i].toNat _).mono ?_
                   rintro e1 w1 ⟨rfl, rfl⟩
                   rw [HD.out])
                | (go_at_call 33
                   refine (refSign_any r _ hrs).mono ?_
                   rintro e1 w1 ⟨rfl, hb1⟩
                   have bx : w1.heap[w.heap.size]? = some (.cells #[.int .i64 0, .string ⟨#[]⟩, .int .i64 0] 35 (0, 0)) := (hb1.block w.heap.size (by simp)).trans (heap_alloc_new w _)
                   obtain ⟨k0, k1, k2, kf⟩ := box3 bx
                   have Hbx := Lib.hid bx
                   have Hbw := Lib.hid ((below_box w _).trans (hb1.mono (by simp)))
                   clear bx hb1
                   rw [Hn.out]))
              have hbx4 : (((w1.setCell ⟨w.heap.size, 0, none⟩ (.int .i64 6)).setCell ⟨w.heap.size, 1, none⟩ (.string (s.extract i (i + n)))).setCell ⟨w.heap.size, 2, none⟩ (.int .i64 (i : Int))).heap[w.heap.size]? = some (.cells #[.int .i64 6, .string (s.extract i (i + n)), .int .i64 i] 35 (0, 0)) :=
                (heap_setCell_same _ w.heap.size 2 _ _ (.int .i64 i) ((heap_setCell_same _ w.heap.size 1 _ _ (.string (s.extract i (i + n))) ((heap_setCell_same w1 w.heap.size 0 _ _ (.int .i64 6) Hbx.out).trans rfl)).trans rfl)).trans rfl
              have hbw4 : Below w.heap.size w (((w1.setCell ⟨w.heap.size, 0, none⟩ (.int .i64 6)).setCell ⟨w.heap.size, 1, none⟩ (.string (s.extract i (i + n)))).setCell ⟨w.heap.size, 2, none⟩ (.int .i64 (i : Int))) := ((Hbw.out.setCell (by simp) _).setCell (by simp) _).setCell (by simp) _
              generalize (((w1.setCell ⟨w.heap.size, 0, none⟩ (.int .i64 6)).setCell ⟨w.heap.size, 1, none⟩ (.string (s.extract i (i + n)))).setCell ⟨w.heap.size, 2, none⟩ (.int .i64 (i : Int))) = w4 at hbx4 hbw4 ⊢
              obtain ⟨g0, g1, g2, g3⟩ := box3 hbx4
              refine bodyPost_ret (v := .tuple #[.agg #[.int .i64 6, .string (s.extract i (i + n)), .int .i64 i], .int .i64 ((i : Int) + n)]) (by simp [results, Try.results25, go_sem, g0, g1, g2]) rfl ⟨⟨6, s.extract i (i + n), i⟩, ?_, ?_, hbw4⟩
              · rw [Hv.out]
                show _ = Ending.returned (.tuple #[tkV ⟨6, s.extract i (i + n), i⟩, .int .i64 ((i + n : Nat) : Int)])
                rw [Int.natCast_add]
                rfl
              · rw [Hv.out]; exact fun _ => rfl

end Go.Proofs.Ytgmoneimfnackaa
