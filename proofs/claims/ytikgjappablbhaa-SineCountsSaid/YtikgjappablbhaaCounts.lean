/-
  Walk over law17.SineCounts.
-/
import Derived.Test.YtikgjappablbhaaWakes
namespace Go.Proofs.Ytikgjappablbhaa
open Go.RowKit

theorem run_ne_sy (a b : ByteArray) (m n : Int) (p q : Bool) (w : World) :
    (binOp .neq 31 (.agg #[.string a, .int .i64 m, .bool p]) (.agg #[.string b, .int .i64 n, .bool q])).run Try.prog w = .ok (.bool (!sameB a b m n p q)) w := by
  simp only [go_sem]
  simp [go_sem, toList_inj]
  unfold sameB
  by_cases h1 : a = b <;> by_cases h2 : m = n <;> by_cases h3 : p = q <;> simp [h1, h2, h3]

set_option maxRecDepth 100000 in
set_option maxHeartbeats 1000000 in
theorem counts_any (l : List En) (v : Value) (B : Nat) (w : World) (hr : Rd w B (.sl 7 (l.map encEn)) v) (hB : B ≤ w.heap.size) :
    Calls Try.prog 3 #[v] w (fun e w' => e = .returned (.bool true) ∧ Below w.heap.size w w') := by
  obtain ⟨A, c, rfl, hc, hn, hm⟩ := hr.sl_form
  rw [List.length_map] at hc hn hr ⊢
  have hsl : Few l → (allSy l).length ≤ 1000000 := fun h => by
    have := allSy_len (few_nodes h)
    have := h.1
    omega
  have Hsl := Lib.hid hsl
  have Hr := Lib.hid hr
  clear hr hsl
  go_enter Try.func3, Try.ntmps3
  go_wp2_with (first
    | (go_at_call 8
       refine (great14_any l _ B _ Hr.out hB).mono ?_
       rintro e w1 ⟨g, rfl, hg, hb1⟩
       have Hg := Lib.hid hg
       have Hb1 := Lib.hid hb1
       have hz1 := hb1.size
       clear hg hb1
       cases g)
    | (go_at_call 9
       refine (wakes_any _).mono ?_
       rintro e w9 ⟨rfl, hb9⟩)
    | (go_at_call 10
       refine (progCommon_any l _ B _ (Hr.out.low Hb1.out hB) (by omega) (Hg.out (by simp))).mono ?_
       rintro e w2 ⟨vs, vn, rfl, hos, hon, hb2⟩
       obtain ⟨As, cs, hvs, hcs, hms⟩ := hos.form
       rw [List.length_map] at hvs hcs
       subst hvs
       have Hos := Lib.hid hos
       have Hon := Lib.hid hon
       have Hb2 := Lib.hid hb2
       have hz2 := hb2.size
       clear hos hon hb2)
    | (go_at_call 11
       refine (refCommon_any l _ B _ ((Hr.out.low Hb1.out hB).low Hb2.out (by omega)) (by omega) (Hg.out (by simp))).mono ?_
       rintro e w3 ⟨us, un, rfl, hus, hun, hb3⟩
       obtain ⟨Au, cu, hvu, hcu, hmu⟩ := hus.form
       rw [List.length_map] at hvu hcu
       subst hvu
       have Hus := Lib.hid hus
       have Hun := Lib.hid hun
       have Hb3 := Lib.hid hb3
       have hz3 := hb3.size
       clear hus hun hb3)
    | (go_at_call 12
       have hcl : (commons l).length ≤ 1000000 := by unfold commons; rw [List.length_map]; exact Hsl.out (Hg.out (by simp))
       refine (row_any (commons l) (commons l) _ _ _ _ (own_rd_n (Hon.out.low Hb3.out) hcl) (own_rd_n Hun.out hcl)).mono ?_
       rintro e w4 ⟨rfl, n4, hw4⟩
       have hb4 : Below w3.heap.size w3 w4 := by rw [hw4]; exact drewN_low (Below.refl _ _) n4
       have Hb4 := Lib.hid hb4
       have hz4 := hb4.size
       clear hw4 hb4
       simp only [decide_true]))
  · have hS := Hsl.out (Hg.out (by simp))
    have hss : (allSy l).length < 1000001 := by omega
    have HsA := Lib.hid (own_rd_sy ((Hos.out.low Hb3.out).low Hb4.out) hS)
    have HsB := Lib.hid (own_rd_sy (Hus.out.low Hb4.out) hS)
    clear hS
    generalize allSy l = S at hss hcs hcu HsA HsB
    unfold maxLen at hms hmu
    go_loopw [7] (fun i wr => ∃ k : Nat, k ≤ S.length ∧ i = .int .i64 k ∧ Below w4.heap.size w4 wr) (fun i _ => S.length - (intOf i).toNat)
    case atStart => exact ⟨0, Nat.zero_le _, rfl, Below.refl _ _⟩
    case round =>
      obtain ⟨k, hk, rfl, hbel⟩ := hrel
      have hsz := hbel.size
      by_cases hlt : k < S.length
      · obtain ⟨a1, o1, rfl, hl1, c0, c1, c2⟩ := (HsA.out.low hbel (Nat.le_refl _)).sy_at hlt
        obtain ⟨a2, o2, rfl, hl2, d0, d1, d2⟩ := (HsB.out.low hbel (Nat.le_refl _)).sy_at hlt
        have hq := run_ne_sy S[k].1 S[k].1 S[k].2.1 S[k].2.1 S[k].2.2 S[k].2.2
        have hs : sameB S[k].1 S[k].1 S[k].2.1 S[k].2.1 S[k].2.2 S[k].2.2 = true := by rw [sameB_iff]; simp
        go_wp2_with fail
        go_quiet (fail)
        go_wp2_with fail
        go_roundw
        case rel => exact ⟨k + 1, by omega, by go_num, drewN_low hbel _⟩
        case measure => simp [intOf]; omega
      · go_wp2_with (go_at_call 9
                     refine (wakes_any _).mono ?_
                     rintro e w9 ⟨rfl, hb9⟩)
        go_ret
        refine ⟨rfl, (Hb1.out.trans (Hb2.out.mono hz1)).trans ((Hb3.out.mono (by omega)).trans ((Hb4.out.mono (by omega)).trans ((hbel.mono (by omega)).trans (hb9.mono (by omega)))))⟩
  · go_ret
    exact ⟨rfl, Hb1.out.trans (hb9.mono hz1)⟩

end Go.Proofs.Ytikgjappablbhaa
