/-
  Walks over the document's answer: Cut.
-/
import Derived.Test.YtgmoneimfnackaaTokK
namespace Go.Proofs.Ytgmoneimfnackaa
open Go.RowKit

set_option maxHeartbeats 1000000 in
theorem refCut_any (s : ByteArray) (w : World) : Calls Try.prog 8 #[.string s] w (CutRes s w) := by
  by_cases hs : 8000 < s.size
  · have hq : cutR s = ([], 0, 3) := by unfold cutR; rw [if_pos hs]
    have Hq := Lib.hid hq
    clear hq
    go_enter Try.func8, Try.ntmps8
    go_wp2_with fail
    refine bodyPost_ret (results_tmp3 rfl _ _ _) rfl ?_
    exact ⟨_, by rw [Hq.out]; rfl, by rw [Hq.out]; exact Own.nil _ _ _ _, Below.refl _ _⟩
  · have hle : s.size ≤ 8000 := by omega
    have hq : cutR s = match (lex s 0).2 with | none => ((lex s 0).1, 0, 0) | some (a, er) => ([], a, er) := by unfold cutR; rw [if_neg hs]; rfl
    have Hq := Lib.hid hq
    clear hq hs
    go_enter Try.func8, Try.ntmps8
    go_wp2_with (go_at_call 17
                 refine (refTokens_any s _ (by omega)).mono ?_
                 rintro e1 w1 ⟨v, L, a, er, rfl, hown, hb, hc⟩
                 have Hown := Lib.hid hown
                 have Hb := Lib.hid hb
                 have Hc := Lib.hid hc
                 clear hown hb hc
                 obtain ⟨d, hd⟩ : ∃ d : Bool, ((er : Int) != 0) = d := ⟨_, rfl⟩
                 cases d)
    · have her : er = 0 := by simpa using hd
      have h3 : cutR s = (L, 0, 0) := by
        rcases Hc.out with ⟨h1, h2, _, _⟩ | ⟨_, h2⟩
        · rw [Hq.out, h1, h2]
        · exact absurd her h2
      refine bodyPost_ret (results_tmp3 rfl _ _ _) rfl ?_
      exact ⟨v, by rw [h3]; rfl, by rw [h3]; exact Hown.out, Hb.out⟩
    · have her : er ≠ 0 := by simpa using hd
      have h3 : cutR s = ([], a, er) := by
        rcases Hc.out with ⟨_, _, _, h2⟩ | ⟨h1, _⟩
        · exact absurd h2 her
        · rw [Hq.out, h1]
      refine bodyPost_ret (results_tmp3 rfl _ _ _) rfl ?_
      exact ⟨_, by rw [h3]; rfl, by rw [h3]; exact Own.nil _ _ _ _, Hb.out⟩

end Go.Proofs.Ytgmoneimfnackaa
