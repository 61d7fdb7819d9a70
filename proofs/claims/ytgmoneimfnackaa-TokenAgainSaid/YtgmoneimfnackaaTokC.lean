/-
  Walks over token.quoted, token.one.
-/
import Derived.Test.YtgmoneimfnackaaTokB
namespace Go.Proofs.Ytgmoneimfnackaa
open Go.RowKit

/-- Where a quoted token ends; the place itself, if none begins there. -/
def qtd (l : List UInt8) (i : Nat) : Nat :=
  if runTo isIn l (i + 1) = i + 1 ∨ runTo isIn l (i + 1) = l.length ∨ l.getD (runTo isIn l (i + 1)) 0 ≠ 39 then i else runTo isIn l (i + 1) + 1

set_option maxHeartbeats 1000000 in
theorem quoted_any (s : ByteArray) (i : Nat) (w : World) (hi : i < s.size) (hs : s.size ≤ 1000000) :
    Calls Try.prog 37 #[.string s, .int .i64 i] w (fun e w' => e = .returned (.int .i64 (qtd (bts s) i : Nat)) ∧ w' = w) := by
  have hq : qtd (bts s) i = (if runTo isIn (bts s) (i + 1) = i + 1 ∨ runTo isIn (bts s) (i + 1) = (bts s).length ∨ (bts s).getD (runTo isIn (bts s) (i + 1)) 0 ≠ 39 then i else runTo isIn (bts s) (i + 1) + 1) := rfl
  have hle := runTo_le isIn (bts s) (i := i + 1) (by rw [bts_len]; omega)
  rw [bts_len] at hq hle
  generalize hV : qtd (bts s) i = V at hq
  obtain ⟨e, he⟩ : ∃ e, runTo isIn (bts s) (i + 1) = e := ⟨_, rfl⟩
  rw [he] at hq hle
  have HV := Lib.hid hq
  have He := Lib.hid he
  obtain ⟨hle1, hle2⟩ := hle
  clear hV he hq
  go_enter Try.func37, Try.ntmps37
  go_upto_region 2 with (go_at_call 19
                         refine (whileIn_any s (i + 1) _ (by omega) hs).mono ?_
                         rintro e1 w1 ⟨rfl, rfl⟩
                         rw [He.out])
  by_cases h1 : e = i + 1
  · have Hv := Lib.hid (show V = i by rw [HV.out, if_pos (.inl h1)])
    have hb : ((e : Int) == (i : Int) + 1) = true := by rw [h1]; simp
    clear h1
    go_wp2_with fail
    go_ret
    exact ⟨by rw [Hv.out]; rfl, rfl⟩
  · have hb : ((e : Int) == (i : Int) + 1) = false := by rw [beq_eq_false_iff_ne]; omega
    by_cases h2 : e = s.size
    · have Hv := Lib.hid (show V = i by rw [HV.out, if_pos (.inr (.inl h2))])
      have hb2 : ((e : Int) == (s.size : Int)) = true := by rw [h2]; simp
      clear h1 h2
      go_wp2_with fail
      go_ret
      exact ⟨by rw [Hv.out]; rfl, rfl⟩
    · have hb2 : ((e : Int) == (s.size : Int)) = false := by rw [beq_eq_false_iff_ne]; omega
      have hlt : e < s.size := by omega
      have hg := bts_get s hlt
      by_cases h3 : s[e] = 39
      · have Hv := Lib.hid (show V = e + 1 by rw [HV.out, if_neg (by rw [hg, h3]; simp; omega)])
        have hb3 : ((s[e].toNat : Int) != 39) = false := by rw [h3]; rfl
        clear h1 h2 h3 hg
        go_wp2_with fail
        go_ret
        exact ⟨by rw [Hv.out, Int.natCast_add]; rfl, rfl⟩
      · have Hv := Lib.hid (show V = i by rw [HV.out, if_pos (.inr (.inr (by rw [hg]; exact h3)))])
        have hb3 : ((s[e].toNat : Int) != 39) = true := by
          rw [bne_iff_ne]
          intro h
          exact h3 (UInt8.toNat_inj.1 (by have : s[e].toNat = 39 := by omega
                                          rw [this]; rfl))
        clear h1 h2 h3 hg
        go_wp2_with fail
        go_ret
        exact ⟨by rw [Hv.out]; rfl, rfl⟩

/-! ## One token -/
structure Tk where
  kind : Nat
  text : ByteArray
  pos : Nat
deriving DecidableEq

/-- The token at a place, and where it ends. -/
def oneT (s : ByteArray) (i : Nat) : Tk × Nat :=
  let l := bts s
  let c := (l.getD i 0).toNat
  if isSmall c then (⟨1, s.extract i (runTo isWord l i), i⟩, runTo isWord l i)
  else if isGreat c then (⟨2, s.extract i (runTo isWord l i), i⟩, runTo isWord l i)
  else if isDigit c then (⟨5, s.extract i (runTo isDigit l i), i⟩, runTo isDigit l i)
  else if c = 36 then (if i + 1 < s.size ∧ isSmall (l.getD (i + 1) 0).toNat = true then (⟨3, s.extract i (runTo isWord l (i + 1)), i⟩, runTo isWord l (i + 1)) else (⟨3, s.extract i i, i⟩, i))
  else if c = 39 then (⟨4, if i < qtd l i then s.extract (i + 1) (qtd l i - 1) else ⟨#[]⟩, i⟩, qtd l i)
  else (⟨6, s.extract i (i + sgn (l.drop i)), i⟩, i + sgn (l.drop i))

def tkV (t : Tk) : Value := .agg #[.int .i64 t.kind, .string t.text, .int .i64 t.pos]

theorem sgn_le (l : List UInt8) : sgn l ≤ l.length ∨ l = [] := by
  cases l with
  | nil => exact .inr rfl
  | cons a l =>
    left
    unfold sgn
    split
    · rename_i x hx
      have := List.find?_some hx
      exact (List.isPrefixOf_iff_prefix.1 this).length_le
    · split <;> simp

set_option maxHeartbeats 4000000 in
theorem one_any (s : ByteArray) (i : Nat) (w : World) (hi : i < s.size) (hs : s.size ≤ 1000000) :
    Calls Try.prog 29 #[.string s, .int .i64 i] w (fun e w' => e = .returned (.tuple #[tkV (oneT s i).1, .int .i64 (oneT s i).2]) ∧ Below w.heap.size w w') := by
  generalize hV : oneT s i = V
  have hc := bts_get s hi
  have HV := Lib.hid hV
  have Hc := Lib.hid hc
  clear hV hc
  go_enter Try.func29, Try.ntmps29
  cases h1 : isSmall s[i].toNat with
  | true =>
    have hle := runTo_le isWord (bts s) (i := i) (by rw [bts_len]; omega)
    rw [bts_len] at hle
    obtain ⟨e, he⟩ : ∃ e, runTo isWord (bts s) (i) = e := ⟨_, rfl⟩
    rw [he] at hle
    have He := Lib.hid he
    obtain ⟨hle1, hle2⟩ := hle
    clear he
    have H1 := Lib.hid h1
    clear h1
    go_wp2_with (first
      | (go_at_call 18
         refine (small_any s[i].toNat _).mono ?_
         rintro e1 w1 ⟨rfl, rfl⟩
         rw [H1.out])
      | (go_at_call 19
         refine (whileWord_any s (i) _ (by omega) hs).mono ?_
         rintro e1 w1 ⟨rfl, rfl⟩
         rw [He.out]))
    refine bodyPost_ret (v := .tuple #[.agg #[.int .i64 1, .string (s.extract i e), .int .i64 i], .int .i64 e]) (by simp [results, Try.results29, go_sem]) rfl ⟨?_, below_box w _⟩
    have hv : V = (⟨1, (s.extract i e), i⟩, e) := by
      rw [← HV.out]
      unfold oneT
      simp only [Hc.out, H1.out, He.out, if_true]
    rw [hv]
    rfl
  | false =>
    cases h2 : isGreat s[i].toNat with
    | true =>
      have hle := runTo_le isWord (bts s) (i := i) (by rw [bts_len]; omega)
      rw [bts_len] at hle
      obtain ⟨e, he⟩ : ∃ e, runTo isWord (bts s) (i) = e := ⟨_, rfl⟩
      rw [he] at hle
      have He := Lib.hid he
      obtain ⟨hle1, hle2⟩ := hle
      clear he
      have H1 := Lib.hid h1
      have H2 := Lib.hid h2
      clear h1 h2
      go_wp2_with (first
        | (go_at_call 18
           refine (small_any s[i].toNat _).mono ?_
           rintro e1 w1 ⟨rfl, rfl⟩
           rw [H1.out])
        | (go_at_call 26
           refine (great_any s[i].toNat _).mono ?_
           rintro e1 w1 ⟨rfl, rfl⟩
           rw [H2.out])
        | (go_at_call 19
           refine (whileWord_any s (i) _ (by omega) hs).mono ?_
           rintro e1 w1 ⟨rfl, rfl⟩
           rw [He.out]))
      refine bodyPost_ret (v := .tuple #[.agg #[.int .i64 2, .string (s.extract i e), .int .i64 i], .int .i64 e]) (by simp [results, Try.results29, go_sem]) rfl ⟨?_, below_box w _⟩
      have hv : V = (⟨2, (s.extract i e), i⟩, e) := by
        rw [← HV.out]
        unfold oneT
        simp only [Hc.out, H1.out, H2.out, He.out, Bool.false_eq_true, if_false, if_true]
      rw [hv]
      rfl
    | false =>
      cases h3 : isDigit s[i].toNat with
      | true =>
        have hle := runTo_le isDigit (bts s) (i := i) (by rw [bts_len]; omega)
        rw [bts_len] at hle
        obtain ⟨e, he⟩ : ∃ e, runTo isDigit (bts s) (i) = e := ⟨_, rfl⟩
        rw [he] at hle
        have He := Lib.hid he
        obtain ⟨hle1, hle2⟩ := hle
        clear he
        have H1 := Lib.hid h1
        have H2 := Lib.hid h2
        have H3 := Lib.hid h3
        clear h1 h2 h3
        go_wp2_with (first
          | (go_at_call 18
             refine (small_any s[i].toNat _).mono ?_
             rintro e1 w1 ⟨rfl, rfl⟩
             rw [H1.out])
          | (go_at_call 26
             refine (great_any s[i].toNat _).mono ?_
             rintro e1 w1 ⟨rfl, rfl⟩
             rw [H2.out])
          | (go_at_call 27
             refine (digit_any s[i].toNat _).mono ?_
             rintro e1 w1 ⟨rfl, rfl⟩
             rw [H3.out])
          | (go_at_call 19
             refine (whileDigit_any s (i) _ (by omega) hs).mono ?_
             rintro e1 w1 ⟨rfl, rfl⟩
             rw [He.out]))
        refine bodyPost_ret (v := .tuple #[.agg #[.int .i64 5, .string (s.extract i e), .int .i64 i], .int .i64 e]) (by simp [results, Try.results29, go_sem]) rfl ⟨?_, below_box w _⟩
        have hv : V = (⟨5, (s.extract i e), i⟩, e) := by
          rw [← HV.out]
          unfold oneT
          simp only [Hc.out, H1.out, H2.out, H3.out, He.out, Bool.false_eq_true, if_false, if_true]
        rw [hv]
        rfl
      | false =>
        have H1 := Lib.hid h1
        have H2 := Lib.hid h2
        have H3 := Lib.hid h3
        clear h1 h2 h3
        by_cases h4 : s[i].toNat = 36
        · have hb : ((s[i].toNat : Int) == 36) = true := by rw [h4]; rfl
          have H4 := Lib.hid h4
          clear h4
          by_cases h5 : i + 1 < s.size
          · have hg := bts_get s h5
            have Hg := Lib.hid hg
            clear hg
            cases h6 : isSmall s[i + 1].toNat with
            | true =>
              have H6 := Lib.hid h6
              clear h6
              have hle := runTo_le isWord (bts s) (i := i + 1) (by rw [bts_len]; omega)
              rw [bts_len] at hle
              obtain ⟨e, he⟩ : ∃ e, runTo isWord (bts s) (i + 1) = e := ⟨_, rfl⟩
              rw [he] at hle
              have He := Lib.hid he
              obtain ⟨hle1, hle2⟩ := hle
              clear he
              go_wp2_with (first
                | (go_at_call 18
                   refine (small_any _ _).mono ?_
                   rintro e1 w1 ⟨rfl, rfl⟩
                   first | rw [H1.out] | rw [H6.out])
                | (go_at_call 26
                   refine (great_any s[i].toNat _).mono ?_
                   rintro e1 w1 ⟨rfl, rfl⟩
                   rw [H2.out])
                | (go_at_call 27
                   refine (digit_any s[i].toNat _).mono ?_
                   rintro e1 w1 ⟨rfl, rfl⟩
                   rw [H3.out])
                | (go_at_call 19
                   refine (whileWord_any s (i + 1) _ (by omega) hs).mono ?_
                   rintro e1 w1 ⟨rfl, rfl⟩
                   rw [He.out]))
              refine bodyPost_ret (v := .tuple #[.agg #[.int .i64 3, .string (s.extract i e), .int .i64 i], .int .i64 e]) (by simp [results, Try.results29, go_sem]) rfl ⟨?_, below_box w _⟩
              have hv : V = (⟨3, (s.extract i e), i⟩, e) := by
                rw [← HV.out]
                unfold oneT
                simp only [Hc.out, (show isSmall 36 = false from rfl), (show isGreat 36 = false from rfl), (show isDigit 36 = false from rfl), H4.out, He.out, h5, Hg.out, H6.out, true_and, Bool.false_eq_true, if_false, if_true]
              rw [hv]
              rfl
            | false =>
              have H6 := Lib.hid h6
              clear h6
              go_wp2_with (first
                | (go_at_call 18
                   refine (small_any _ _).mono ?_
                   rintro e1 w1 ⟨rfl, rfl⟩
                   first | rw [H1.out] | rw [H6.out])
                | (go_at_call 26
                   refine (great_any s[i].toNat _).mono ?_
                   rintro e1 w1 ⟨rfl, rfl⟩
                   rw [H2.out])
                | (go_at_call 27
                   refine (digit_any s[i].toNat _).mono ?_
                   rintro e1 w1 ⟨rfl, rfl⟩
                   rw [H3.out]))
              refine bodyPost_ret (v := .tuple #[.agg #[.int .i64 3, .string (s.extract i i), .int .i64 i], .int .i64 i]) (by simp [results, Try.results29, go_sem]) rfl ⟨?_, below_box w _⟩
              have hv : V = (⟨3, (s.extract i i), i⟩, i) := by
                rw [← HV.out]
                unfold oneT
                simp only [Hc.out, (show isSmall 36 = false from rfl), (show isGreat 36 = false from rfl), (show isDigit 36 = false from rfl), H4.out, h5, Hg.out, H6.out, true_and, Bool.false_eq_true, if_false, if_true]
              rw [hv]
              rfl
          · go_wp2_with (first
              | (go_at_call 18
                 refine (small_any s[i].toNat _).mono ?_
                 rintro e1 w1 ⟨rfl, rfl⟩
                 rw [H1.out])
              | (go_at_call 26
                 refine (great_any s[i].toNat _).mono ?_
                 rintro e1 w1 ⟨rfl, rfl⟩
                 rw [H2.out])
              | (go_at_call 27
                 refine (digit_any s[i].toNat _).mono ?_
                 rintro e1 w1 ⟨rfl, rfl⟩
                 rw [H3.out]))
            refine bodyPost_ret (v := .tuple #[.agg #[.int .i64 3, .string (s.extract i i), .int .i64 i], .int .i64 i]) (by simp [results, Try.results29, go_sem]) rfl ⟨?_, below_box w _⟩
            have hv : V = (⟨3, (s.extract i i), i⟩, i) := by
              rw [← HV.out]
              unfold oneT
              simp only [Hc.out, (show isSmall 36 = false from rfl), (show isGreat 36 = false from rfl), (show isDigit 36 = false from rfl), H4.out, h5, false_and, Bool.false_eq_true, if_false, if_true]
            rw [hv]
            rfl
        · have hb : ((s[i].toNat : Int) == 36) = false := by rw [beq_eq_false_iff_ne]; omega
          by_cases h5 : s[i].toNat = 39
          · have hb2 : ((s[i].toNat : Int) == 39) = true := by rw [h5]; rfl
            have H4 := Lib.hid h4
            have H5 := Lib.hid h5
            clear h4 h5
            obtain ⟨e, he⟩ : ∃ e, qtd (bts s) i = e := ⟨_, rfl⟩
            have hqe : e = i ∨ (i + 1 < e ∧ e ≤ s.size) := by
              rw [← he]
              unfold qtd
              have hle := runTo_le isIn (bts s) (i := i + 1) (by rw [bts_len]; omega)
              rw [bts_len] at hle
              split
              · exact .inl rfl
              · rename_i h
                rw [bts_len] at h
                omega
            have He := Lib.hid he
            clear he
            by_cases h6 : i < e
            · have H6 := Lib.hid h6
              go_wp2_with (first
                | (go_at_call 18
                   refine (small_any s[i].toNat _).mono ?_
                   rintro e1 w1 ⟨rfl, rfl⟩
                   rw [H1.out])
                | (go_at_call 26
                   refine (great_any s[i].toNat _).mono ?_
                   rintro e1 w1 ⟨rfl, rfl⟩
                   rw [H2.out])
                | (go_at_call 27
                   refine (digit_any s[i].toNat _).mono ?_
                   rintro e1 w1 ⟨rfl, rfl⟩
                   rw [H3.out])
                | (go_at_call 37
                   refine (quoted_any s i _ hi hs).mono ?_
                   rintro e1 w1 ⟨rfl, rfl⟩
                   rw [He.out]))
              refine bodyPost_ret (v := .tuple #[.agg #[.int .i64 4, .string (s.extract (i + 1) (e - 1)), .int .i64 i], .int .i64 e]) (by simp [results, Try.results29, go_sem]) rfl ⟨?_, below_box w _⟩
              have hv : V = (⟨4, (s.extract (i + 1) (e - 1)), i⟩, e) := by
                rw [← HV.out]
                unfold oneT
                simp only [Hc.out, (show isSmall 39 = false from rfl), (show isGreat 39 = false from rfl), (show isDigit 39 = false from rfl), (show ¬ (39 : Nat) = 36 by decide), H5.out, He.out, H6.out, Bool.false_eq_true, if_false, if_true]
              rw [hv]
              rfl
            · have H6 := Lib.hid h6
              go_wp2_with (first
                | (go_at_call 18
                   refine (small_any s[i].toNat _).mono ?_
                   rintro e1 w1 ⟨rfl, rfl⟩
                   rw [H1.out])
                | (go_at_call 26
                   refine (great_any s[i].toNat _).mono ?_
                   rintro e1 w1 ⟨rfl, rfl⟩
                   rw [H2.out])
                | (go_at_call 27
                   refine (digit_any s[i].toNat _).mono ?_
                   rintro e1 w1 ⟨rfl, rfl⟩
                   rw [H3.out])
                | (go_at_call 37
                   refine (quoted_any s i _ hi hs).mono ?_
                   rintro e1 w1 ⟨rfl, rfl⟩
                   rw [He.out]))
              refine bodyPost_ret (v := .tuple #[.agg #[.int .i64 4, .string ⟨#[]⟩, .int .i64 i], .int .i64 e]) (by simp [results, Try.results29, go_sem]) rfl ⟨?_, below_box w _⟩
              have hv : V = (⟨4, ⟨#[]⟩, i⟩, e) := by
                rw [← HV.out]
                unfold oneT
                simp only [Hc.out, (show isSmall 39 = false from rfl), (show isGreat 39 = false from rfl), (show isDigit 39 = false from rfl), (show ¬ (39 : Nat) = 36 by decide), H5.out, He.out, H6.out, Bool.false_eq_true, if_false, if_true]
              rw [hv]
              rfl
          · have hb2 : ((s[i].toNat : Int) == 39) = false := by rw [beq_eq_false_iff_ne]; omega
            have H4 := Lib.hid h4
            have H5 := Lib.hid h5
            clear h4 h5
            have hsz : (s.extract i s.size).size = s.size - i := by simp
            have hfr := bts_from s i
            have hsl := sgn_le (bts (s.extract i s.size))
            rw [bts_len] at hsl
            have hsl : sgn (bts (s.extract i s.size)) ≤ (s.extract i s.size).size := by
              rcases hsl with h | h
              · exact h
              · have := congrArg List.length h; rw [bts_len] at this; simp at this; omega
            generalize hr : s.extract i s.size = r at hsz hfr hsl
            obtain ⟨n, hn⟩ : ∃ n, sgn (bts r) = n := ⟨_, rfl⟩
            rw [hn] at hsl
            have Hn := Lib.hid hn
            have Hfr := Lib.hid hfr
            have hr0 : 0 < r.size := by omega
            have hrs : r.size ≤ 1000000 := by omega
            have hin : i + n ≤ s.size := by omega
            clear hsz hfr hn
            go_upto_region 19 with (first
              | (go_at_call 18
                 refine (small_any s[i].toNat _).mono ?_
                 rintro e1 w1 ⟨rfl, rfl⟩
                 rw [H1.out])
              | (go_at_call 26
                 refine (great_any s[i].toNat _).mono ?_
                 rintro e1 w1 ⟨rfl, rfl⟩
                 rw [H2.out])
              | (go_at_call 27
                 refine (digit_any s[i].toNat _).mono ?_
                 rintro e1 w1 ⟨rfl, rfl⟩
                 rw [H3.out])
              | (go_at_call 38
                 refine (sign_any r _ hr0 hrs).mono ?_
                 rintro e1 w1 ⟨rfl, hb1⟩
                 rw [Hn.out]
                 obtain ⟨eb, hbw, hz1⟩ := box_after hb1
                 have hbx := (hb1.block w.heap.size (by simp)).trans (heap_alloc_new w _)
                 have e0 := eb 0
                 have f0 := frozen_of_row w1 w.heap.size 0 _ _ hbx
                 have Hbx := Lib.hid hbx
                 have Hbw := Lib.hid hbw
                 clear hb1 hbx eb hbw))
            have hbx2 : (w1.setCell ⟨w.heap.size, 0, none⟩ (.int .i64 6)).heap[w.heap.size]? = some (.cells #[.int .i64 6, .string ⟨#[]⟩, .int .i64 i] 35 (0, 0)) := (heap_setCell_same w1 w.heap.size 0 _ _ (.int .i64 6) Hbx.out).trans rfl
            have hbw2 : Below w.heap.size w (w1.setCell ⟨w.heap.size, 0, none⟩ (.int .i64 6)) := Hbw.out.setCell (by simp) _
            generalize w1.setCell ⟨w.heap.size, 0, none⟩ (.int .i64 6) = w2 at hbx2 hbw2 ⊢
            obtain ⟨e, he⟩ : ∃ e, i + n = e := ⟨_, rfl⟩
            rw [show ((i : Int) + (n : Int)) = (e : Int) by omega]
            have he1 : i ≤ e := by omega
            have he2 : e ≤ s.size := by omega
            have He := Lib.hid he
            have eb := fun o => cell_of_row w2 w.heap.size o _ _ _ hbx2
            have e1 := eb 1
            have f1 := frozen_of_row w2 w.heap.size 1 _ _ hbx2
            have Hbx2 := Lib.hid hbx2
            have Hbw2 := Lib.hid hbw2
            clear eb hbx2 hbw2 he e0 f0 hin hsl hr0 hrs
            go_upto_region 20 with fail
            have hbx3 : (w2.setCell ⟨w.heap.size, 1, none⟩ (.string (s.extract i e))).heap[w.heap.size]? = some (.cells #[.int .i64 6, .string (s.extract i e), .int .i64 i] 35 (0, 0)) := (heap_setCell_same w2 w.heap.size 1 _ _ (.string (s.extract i e)) Hbx2.out).trans rfl
            have hbw3 : Below w.heap.size w (w2.setCell ⟨w.heap.size, 1, none⟩ (.string (s.extract i e))) := Hbw2.out.setCell (by simp) _
            generalize w2.setCell ⟨w.heap.size, 1, none⟩ (.string (s.extract i e)) = w3 at hbx3 hbw3 ⊢
            have eb := fun o => cell_of_row w3 w.heap.size o _ _ _ hbx3
            have e3 := eb 0
            have e4 := eb 1
            have e5 := eb 2
            have f3 := frozen_of_row w3 w.heap.size 0 _ _ hbx3
            have f4 := frozen_of_row w3 w.heap.size 1 _ _ hbx3
            have f5 := frozen_of_row w3 w.heap.size 2 _ _ hbx3
            have Hbw3 := Lib.hid hbw3
            have Hbx3 := Lib.hid hbx3
            clear eb hbx3 hbw3 e1 f1
            go_wp2_with fail
            have hbx4 : (((w3.setCell ⟨w.heap.size, 0, none⟩ (.int .i64 6)).setCell ⟨w.heap.size, 1, none⟩ (.string (s.extract i e))).setCell ⟨w.heap.size, 2, none⟩ (.int .i64 (i : Int))).heap[w.heap.size]? = some (.cells #[.int .i64 6, .string (s.extract i e), .int .i64 i] 35 (0, 0)) :=
              (heap_setCell_same _ w.heap.size 2 _ _ (.int .i64 i) ((heap_setCell_same _ w.heap.size 1 _ _ (.string (s.extract i e)) ((heap_setCell_same w3 w.heap.size 0 _ _ (.int .i64 6) Hbx3.out).trans rfl)).trans rfl)).trans rfl
            have hbw4 : Below w.heap.size w (((w3.setCell ⟨w.heap.size, 0, none⟩ (.int .i64 6)).setCell ⟨w.heap.size, 1, none⟩ (.string (s.extract i e))).setCell ⟨w.heap.size, 2, none⟩ (.int .i64 (i : Int))) := ((Hbw3.out.setCell (by simp) _).setCell (by simp) _).setCell (by simp) _
            generalize (((w3.setCell ⟨w.heap.size, 0, none⟩ (.int .i64 6)).setCell ⟨w.heap.size, 1, none⟩ (.string (s.extract i e))).setCell ⟨w.heap.size, 2, none⟩ (.int .i64 (i : Int))) = w4 at hbx4 hbw4 ⊢
            have eb := fun o => cell_of_row w4 w.heap.size o _ _ _ hbx4
            have g0 := eb 0
            have g1 := eb 1
            have g2 := eb 2
            simp only [List.getElem?_toArray, List.getElem?_cons_zero, List.getElem?_cons_succ] at g0 g1 g2
            refine bodyPost_ret (v := .tuple #[.agg #[.int .i64 6, .string (s.extract i e), .int .i64 i], .int .i64 e]) (by simp [results, Try.results29, go_sem, g0, g1, g2]) rfl ⟨?_, hbw4⟩
            have hv : V = (⟨6, s.extract i e, i⟩, e) := by
              rw [← HV.out]
              unfold oneT
              simp only [Hc.out, H1.out, H2.out, H3.out, H4.out, H5.out, Bool.false_eq_true, if_false]
              rw [← Hfr.out, Hn.out, He.out]
            rw [hv]
            rfl

end Go.Proofs.Ytgmoneimfnackaa
