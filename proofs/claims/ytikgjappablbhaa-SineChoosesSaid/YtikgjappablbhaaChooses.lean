/-
  Walk over law17.SineChooses.
-/
import Derived.Test.YtikgjappablbhaaSineI
namespace Go.Proofs.Ytikgjappablbhaa
open Go.RowKit

set_option maxRecDepth 100000 in
set_option maxHeartbeats 1000000 in
theorem chooses_any (l : List En) (tol dep : Int) (v : Value) (B : Nat) (w : World) (hr : Rd w B (.sl 7 (l.map encEn)) v) (hB : B ≤ w.heap.size) :
    Calls Try.prog 4 #[v, .int .i64 tol, .int .i64 dep] w (fun e w' => e = .returned (.bool true) ∧ Below w.heap.size w w') := by
  obtain ⟨A, c, rfl, hc, hn, hm⟩ := hr.sl_form
  rw [List.length_map] at hc hn hr ⊢
  have Hr := Lib.hid hr
  clear hr
  generalize hx1 : errno tol dep = x1
  have Hx1 := Lib.hid hx1
  clear hx1
  go_enter Try.func4, Try.ntmps4
  go_upto_region 4 with (first
    | (go_at_call 8
       refine (great14_any l _ B _ Hr.out hB).mono ?_
       rintro e w1 ⟨g, rfl, hg, hb1⟩
       have Hg := Lib.hid hg
       have Hb1 := Lib.hid hb1
       have hz1 := hb1.size
       clear hg hb1
       cases g)
    | (go_at_call 13
       refine (progChoose_any l tol dep _ B _ (Hr.out.low Hb1.out hB) (by omega) (Hg.out (by simp))).mono ?_
       rintro e w2 ⟨va, rfl, hoa, hb2⟩
       rw [Hx1.out]
       have Hoa := Lib.hid hoa
       have Hb2 := Lib.hid hb2
       have hz2 := hb2.size
       clear hoa hb2)
    | (go_at_call 9
       refine (wakes_any _).mono ?_
       rintro e w9 ⟨rfl, hb9⟩))
  rotate_left
  · go_ret
    exact ⟨rfl, Hb1.out.trans (hb9.mono hz1)⟩
  have Hf := Lib.hid (Hg.out (by simp))
  clear Hg
  have hl3 := Hf.out.1
  have hla := answer_len l tol dep
  go_wp2_with (first
    | (go_at_call 14
       refine (refChoose_any l tol dep _ B _ ((Hr.out.low Hb1.out hB).low Hb2.out (by omega)) (by omega) Hf.out).mono ?_
       rintro e w3 ⟨vb, rfl, hob, hb3⟩
       rw [Hx1.out]
       have Hob := Lib.hid hob
       have Hb3 := Lib.hid hb3
       have hz3 := hb3.size
       clear hob hb3)
    | (go_at_call 12
       refine (row_any (answer l tol dep) (answer l tol dep) _ _ _ _ (own_rd_n (Hoa.out.low Hb3.out) (by omega)) (own_rd_n Hob.out (by omega))).mono ?_
       rintro e w4 ⟨rfl, n4, hw4⟩
       have hb4 : Below w3.heap.size w3 w4 := by rw [hw4]; exact drewN_low (Below.refl _ _) n4
       have Hb4 := Lib.hid hb4
       have hz4 := hb4.size
       clear hw4 hb4
       simp only [decide_true])
    | (go_at_call 9
       refine (wakes_any _).mono ?_
       rintro e w9 ⟨rfl, hb9⟩))
  go_ret
  exact ⟨rfl, (Hb1.out.trans (Hb2.out.mono hz1)).trans ((Hb3.out.mono (by omega)).trans ((Hb4.out.mono (by omega)).trans (hb9.mono (by omega))))⟩

end Go.Proofs.Ytikgjappablbhaa
