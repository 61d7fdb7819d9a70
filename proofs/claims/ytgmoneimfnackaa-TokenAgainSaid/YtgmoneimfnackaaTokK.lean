/-
  Walks over the document's answer: Tokens, Cut.
-/
import Derived.Test.YtgmoneimfnackaaTokJ
namespace Go.Proofs.Ytgmoneimfnackaa
open Go.RowKit

/-- What Tokens hands back. -/
def TokensRes (s : ByteArray) (w : World) (e : Ending) (w' : World) : Prop :=
  ∃ v L a er, e = .returned (.tuple #[v, .int .i64 (a : Nat), .int .i64 (er : Nat)]) ∧ Own w' w.heap.size 35 3 v (List.map tkRow L) ∧ Below w.heap.size w w' ∧
    (((lex s 0).2 = none ∧ L = (lex s 0).1 ∧ a = 0 ∧ er = 0) ∨ ((lex s 0).2 = some (a, er) ∧ er ≠ 0))

set_option maxHeartbeats 8000000 in
theorem refTokens_any (s : ByteArray) (w : World) (hs : s.size ≤ 1000000) :
    Calls Try.prog 17 #[.string s] w (TokensRes s w) := by
  go_enter Try.func17, Try.ntmps17
  go_wp2_with fail
  go_loopw [2, 3] (fun v k wr => ∃ (i : Nat) (L : List Tk), k = .int .i64 i ∧ i ≤ s.size ∧ L.length ≤ i ∧ Own wr w.heap.size 35 3 v (List.map tkRow L) ∧ lex s 0 = (L ++ (lex s i).1, (lex s i).2) ∧ Below w.heap.size w wr) (fun _ k _ => s.size - (intOf k).toNat)
  case atStart => exact ⟨0, [], rfl, Nat.zero_le _, Nat.zero_le _, Own.nil _ _ _ _, by simp, Below.refl _ _⟩
  case round =>
    obtain ⟨i, L, rfl, hi, hL, hown, hlx, hbel⟩ := hrel
    have hzz := hbel.size
    obtain ⟨Av, cv, hv, _, _⟩ := hown.form
    rw [List.length_map] at hv
    subst hv
    have Hown := Lib.hid hown
    have Hlx := Lib.hid hlx
    have Hbel := Lib.hid hbel
    clear hown hlx hbel
    by_cases hlt : i < s.size
    · have hc := bts_get s hlt
      have Hc := Lib.hid hc
      clear hc
      cases hbl : isBlank s[i].toNat with
      | true =>
        have hlx2 : lex s i = lex s (i + 1) := lex_skip hlt (by unfold stepAt; rw [Hc.out, if_pos hbl])
        have Hlx2 := Lib.hid hlx2
        have Hbl := Lib.hid hbl
        clear hlx2 hbl
        go_wp2_with (first
          | (go_at_call 23
             refine (refBlank_any s[i].toNat _).mono ?_
             rintro e1 w1 ⟨rfl, rfl⟩
             rw [Hbl.out]))
        go_roundw
        case rel =>
          exact ⟨i + 1, L, by go_num, by omega, by omega, Hown.out, by rw [Hlx.out, Hlx2.out], Hbel.out⟩
        case measure => simp [intOf]; omega
      | false =>
        obtain ⟨rk, hrk⟩ : ∃ rk, rmk (bts s) i = rk := ⟨_, rfl⟩
        have hle := rmk_le (bts s) (i := i) (by rw [bts_len]; exact hlt)
        rw [bts_len, hrk] at hle
        obtain ⟨hle1, hle2⟩ := hle
        have hbl2 : ¬ isBlank s[i].toNat = true := by rw [hbl]; decide
        have Hbl := Lib.hid hbl
        have Hbl2 := Lib.hid hbl2
        have Hrk := Lib.hid hrk
        clear hbl hbl2 hrk
        by_cases hne : rk = i
        · obtain ⟨kd, tx, ps, en, hone⟩ : ∃ kd tx ps en, oneT s i = (⟨kd, tx, ps⟩, en) := ⟨_, _, _, _, rfl⟩
          have hle := oneT_le s hlt
          have hstp : stepAt s i = if en = i then .fault 220 else if kd ≠ 6 ∧ 40 < tx.size then .fault 3 else .tok ⟨kd, tx, ps⟩ en := by
            unfold stepAt
            rw [Hc.out, if_neg Hbl2.out, if_neg (by rw [Hrk.out, hne]; simp), hone]
          rw [hone] at hle
          obtain ⟨hle3, hle4⟩ := hle
          have Hone := Lib.hid hone
          have Hstp := Lib.hid hstp
          clear hone hstp
          obtain rfl := hne.symm
          go_upto_region 7 with (first
            | (go_at_call 23
               refine (refBlank_any s[i].toNat _).mono ?_
               rintro e1 w1 ⟨rfl, rfl⟩
               rw [Hbl.out])
            | (go_at_call 24
               refine (refRemark_any s i _ hlt hs).mono ?_
               rintro e1 w1 ⟨rfl, rfl⟩
               rw [Hrk.out]))
          by_cases hen : en = i
          · have hfa : lex s i = ([], some (i, 220)) := lex_fault hlt (by rw [Hstp.out, if_pos hen])
            have q6 : ((en : Int) == (i : Int)) = true := by rw [hen]; simp
            have Hfa := Lib.hid hfa
            clear hfa hen
            go_wp2_with (first
              | (go_at_call 25
                 refine (refOne_any s i _ hlt hs).mono ?_
                 rintro e1 w1 ⟨tk, rfl, htk, hb1⟩
                 rw [Hone.out] at htk ⊢
                 obtain ⟨kd2, tx2, ps2⟩ := tk
                 simp only [tkV] at htk ⊢
                 have Htk2 := Lib.hid htk
                 have Hb1 := Lib.hid hb1
                 clear htk hb1))
            refine bodyPost_ret (results_tmp3 rfl _ _ _) rfl ?_
            exact ⟨_, L, i, 220, rfl, (Hown.out.low Hb1.out).alloc _, (Hbel.out.trans (Hb1.out.mono hzz)).trans ((below_box w1 _).mono (by have := Hb1.out.size; omega)), .inr ⟨by rw [Hlx.out, Hfa.out], by decide⟩⟩
          · have q6 : ((en : Int) == (i : Int)) = false := by rw [beq_eq_false_iff_ne]; omega
            by_cases hlg : kd ≠ 6 ∧ 40 < tx.size
            · have hfa : lex s i = ([], some (i, 3)) := lex_fault hlt (by rw [Hstp.out, if_neg hen, if_pos hlg])
              have q7 : ((kd : Int) != 6) = true := by rw [bne_iff_ne]; omega
              have q8 := hlg.2
              have Hfa := Lib.hid hfa
              have Hen := Lib.hid hen
              clear hfa hen hlg
              go_wp2_with (first
                | (go_at_call 25
                   refine (refOne_any s i _ hlt hs).mono ?_
                   rintro e1 w1 ⟨tk, rfl, htk, hb1⟩
                   rw [Hone.out] at htk ⊢
                   obtain rfl := htk Hen.out
                   simp only [tkV]
                   have Hb1 := Lib.hid hb1
                   clear htk hb1))
              refine bodyPost_ret (results_tmp3 rfl _ _ _) rfl ?_
              exact ⟨_, L, i, 3, rfl, (Hown.out.low Hb1.out).alloc _, (Hbel.out.trans (Hb1.out.mono hzz)).trans ((below_box w1 _).mono (by have := Hb1.out.size; omega)), .inr ⟨by rw [Hlx.out, Hfa.out], by decide⟩⟩
            · have htk : lex s i = (⟨kd, tx, ps⟩ :: (lex s en).1, (lex s en).2) := lex_tok hlt (by rw [Hstp.out, if_neg hen, if_neg hlg])
              have hgt : i < en := by omega
              have Htk := Lib.hid htk
              have Hen := Lib.hid hen
              clear htk hen
              by_cases hk6 : kd = 6
              · have q7 : ((kd : Int) != 6) = false := by rw [hk6]; rfl
                clear hk6 hlg
                go_wp2_with (first
                  | (go_at_call 25
                     refine (refOne_any s i _ hlt hs).mono ?_
                     rintro e1 w1 ⟨tk, rfl, htk, hb1⟩
                     rw [Hone.out] at htk ⊢
                     obtain rfl := htk Hen.out
                     simp only [tkV]
                     have Hb1 := Lib.hid hb1
                     clear htk hb1)
                  | (at_builtin
                     go_loud (refine wpList_push _ rfl (.tmp 47) (.tmp 49) _ rfl tokT (base := w.heap.size) (rows := List.map tkRow L) rfl (by exact ((Hown.out.low Hb1.out).alloc _).alloc _) (g := w1.heap.size + 1) (cells := #[.int .i64 kd, .string tx, .int .i64 ps]) rfl (by have := heap_alloc_new (w1.alloc (.cells #[.int .i64 kd, .string tx, .int .i64 ps] 35)) (.cells #[.int .i64 kd, .string tx, .int .i64 ps] 35); rw [World.size_alloc] at this; exact this) rfl (by simp [Value.oneCell']) (by rw [List.length_map]; omega) (by rw [List.length_map]; unfold maxLen; omega) (by have := Hb1.out.size; simp; omega) ?_)
                     intro v4 w4 hown4 hup4 _
                     have Hown4 := Lib.hid hown4
                     have Hup4 := Lib.hid hup4
                     clear hown4 hup4))
                go_roundw
                case rel =>
                  refine ⟨en, L ++ [⟨kd, tx, ps⟩], by go_num, by omega, by simp; omega, by rw [List.map_append]; exact Hown4.out, by rw [Hlx.out, Htk.out]; simp, ?_⟩
                  have hb2 := Hbel.out.trans (Hb1.out.mono hzz)
                  have hz2 := Hb1.out.size
                  refine (hb2.trans (((below_box w1 _).alloc (by simp) _).mono (by omega))).trans (Hup4.out.toLow (by simp; omega) (fun k hk => ((Hown.out).lt k hk).1))
                case measure => simp [intOf]; omega
              · have q7 : ((kd : Int) != 6) = true := by rw [bne_iff_ne]; omega
                have q8 : tx.size ≤ 40 := by omega
                clear hk6 hlg
                go_wp2_with (first
                  | (go_at_call 25
                     refine (refOne_any s i _ hlt hs).mono ?_
                     rintro e1 w1 ⟨tk, rfl, htk, hb1⟩
                     rw [Hone.out] at htk ⊢
                     obtain rfl := htk Hen.out
                     simp only [tkV]
                     have Hb1 := Lib.hid hb1
                     clear htk hb1)
                  | (at_builtin
                     go_loud (refine wpList_push _ rfl (.tmp 47) (.tmp 49) _ rfl tokT (base := w.heap.size) (rows := List.map tkRow L) rfl (by exact ((Hown.out.low Hb1.out).alloc _).alloc _) (g := w1.heap.size + 1) (cells := #[.int .i64 kd, .string tx, .int .i64 ps]) rfl (by have := heap_alloc_new (w1.alloc (.cells #[.int .i64 kd, .string tx, .int .i64 ps] 35)) (.cells #[.int .i64 kd, .string tx, .int .i64 ps] 35); rw [World.size_alloc] at this; exact this) rfl (by simp [Value.oneCell']) (by rw [List.length_map]; omega) (by rw [List.length_map]; unfold maxLen; omega) (by have := Hb1.out.size; simp; omega) ?_)
                     intro v4 w4 hown4 hup4 _
                     have Hown4 := Lib.hid hown4
                     have Hup4 := Lib.hid hup4
                     clear hown4 hup4))
                go_roundw
                case rel =>
                  refine ⟨en, L ++ [⟨kd, tx, ps⟩], by go_num, by omega, by simp; omega, by rw [List.map_append]; exact Hown4.out, by rw [Hlx.out, Htk.out]; simp, ?_⟩
                  have hb2 := Hbel.out.trans (Hb1.out.mono hzz)
                  have hz2 := Hb1.out.size
                  refine (hb2.trans (((below_box w1 _).alloc (by simp) _).mono (by omega))).trans (Hup4.out.toLow (by simp; omega) (fun k hk => ((Hown.out).lt k hk).1))
                case measure => simp [intOf]; omega
        · have hlx2 : lex s i = lex s rk := lex_skip hlt (by unfold stepAt; rw [Hc.out, if_neg Hbl2.out, if_pos (by rw [Hrk.out]; exact hne), Hrk.out])
          have Hlx2 := Lib.hid hlx2
          have hgt : i < rk := by omega
          clear hlx2 hne
          go_wp2_with (first
            | (go_at_call 23
               refine (refBlank_any s[i].toNat _).mono ?_
               rintro e1 w1 ⟨rfl, rfl⟩
               rw [Hbl.out])
            | (go_at_call 24
               refine (refRemark_any s i _ hlt hs).mono ?_
               rintro e1 w1 ⟨rfl, rfl⟩
               rw [Hrk.out]))
          go_roundw
          case rel =>
            exact ⟨rk, L, by go_num, by omega, by omega, Hown.out, by rw [Hlx.out, Hlx2.out], Hbel.out⟩
          case measure => simp [intOf]; omega
    · have hie : i = s.size := by omega
      subst hie
      go_wp2_with (first
        | (at_builtin
           go_loud (refine wpList_push _ rfl (.tmp 52) (.tmp 56) _ rfl tokT (base := w.heap.size) (rows := List.map tkRow L) rfl (by exact Hown.out.alloc _) (g := wr.heap.size) (cells := #[.int .i64 7, .string ⟨#[]⟩, .int .i64 s.size]) rfl (heap_alloc_new wr _) rfl (by simp [Value.oneCell']) (by rw [List.length_map]; omega) (by rw [List.length_map]; unfold maxLen; omega) (by simp; omega) ?_)
           intro v4 w4 hown4 hup4 _
           have Hown4 := Lib.hid hown4
           have Hup4 := Lib.hid hup4
           clear hown4 hup4))
      refine bodyPost_ret (results_tmp3 rfl _ _ _) rfl ?_
      refine ⟨_, L ++ [endT s], 0, 0, rfl, by rw [List.map_append]; exact Hown4.out, ?_, .inl ⟨by rw [Hlx.out, lex_end rfl], by rw [Hlx.out, lex_end rfl], rfl, rfl⟩⟩
      exact (Hbel.out.trans ((below_box wr _).mono hzz)).trans (Hup4.out.toLow (by simp; omega) (fun k hk => (Hown.out.lt k hk).1))

end Go.Proofs.Ytgmoneimfnackaa
