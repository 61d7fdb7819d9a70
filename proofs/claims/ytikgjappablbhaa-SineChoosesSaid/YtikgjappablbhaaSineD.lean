/-
  Walks over what triggers: both.
-/
import Derived.Test.YtikgjappablbhaaSineC
namespace Go.Proofs.Ytikgjappablbhaa
open Go.RowKit

/-- How common the least common symbol is. -/
def leastTo (c : Sy → Nat) (o : List Sy) (k : Nat) : Nat := (o.take k).foldl (fun m s => min m (c s)) (match o with | [] => 0 | s :: _ => c s)
def least (c : Sy → Nat) (o : List Sy) : Nat := leastTo c o o.length
/-- Does a symbol trigger? -/
def trigs (c : Sy → Nat) (th : Sy → Bool) (tol m : Nat) (s : Sy) : Bool := th s && decide (10 * c s ≤ tol * m)
/-- Is an axiom triggered? -/
def trig (c : Sy → Nat) (th : Sy → Bool) (tol : Nat) (o : List Sy) : Bool := o.isEmpty || o.any (trigs c th tol (least c o))

theorem leastTo_zero (c : Sy → Nat) (o : List Sy) (h : 0 < o.length) : leastTo c o 0 = c o[0] := by
  cases o with
  | nil => simp at h
  | cons s o => rfl
theorem leastTo_succ (c : Sy → Nat) (o : List Sy) (k : Nat) (hk : k < o.length) : leastTo c o (k + 1) = min (leastTo c o k) (c o[k]) := by
  unfold leastTo
  rw [List.take_succ_eq_append_getElem hk, List.foldl_append]
  rfl
theorem leastTo_le (c : Sy → Nat) (N : Nat) (hc : ∀ s, c s ≤ N) (o : List Sy) (k : Nat) : leastTo c o k ≤ N := by
  have key : ∀ (l : List Sy) (m : Nat), m ≤ N → l.foldl (fun m s => min m (c s)) m ≤ N := by
    intro l
    induction l with
    | nil => exact fun m h => h
    | cons s l ih => intro m h; exact ih _ (Nat.le_trans (Nat.min_le_left _ _) h)
  unfold leastTo
  refine key _ _ ?_
  cases o with
  | nil => exact Nat.zero_le _
  | cons s o => exact hc s

def encB (b : Bool) : List Tr := [.leaf (.bool b)]

set_option maxHeartbeats 1000000 in
theorem refTrig_any (S O : List Sy) (c : Sy → Nat) (th : Sy → Bool) (tol : Nat) (v1 v2 v3 v4 : Value) (B : Nat) (w : World) (h1 : Rd w B (.sl 3 (O.map encSy)) v1) (h2 : Rd w B (.sl 3 (S.map encSy)) v2)
    (h3 : Rd w B (.sl 1 ((S.map c).map encN)) v3) (h4 : Rd w B (.sl 1 ((S.map th).map encB)) v4) (hB : B ≤ w.heap.size) (hc : ∀ s, c s ≤ 1000) (htol : tol ≤ 1000) (hO : ∀ s ∈ O, s ∈ S) :
    Calls Try.prog 27 #[v1, v2, v3, v4, .int .i64 tol] w fun e w' => e = .returned (.bool (trig c th tol O)) ∧ Below w.heap.size w w' := by
  obtain ⟨A1, c1, rfl, hc1, hn1, hm1⟩ := h1.sl_form
  obtain ⟨A2, c2, rfl, hc2, hn2, hm2⟩ := h2.sl_form
  obtain ⟨A3, c3, rfl, hc3, hn3, hm3⟩ := h3.sl_form
  obtain ⟨A4, c4, rfl, hc4, hn4, hm4⟩ := h4.sl_form
  simp only [List.length_map] at hc1 hn1 h1 hc2 hn2 h2 hc3 hn3 h3 hc4 hn4 h4 ⊢
  unfold maxLen at hm1 hm2 hm3 hm4
  have H1 := Lib.hid h1
  have H2 := Lib.hid h2
  have H3 := Lib.hid h3
  have H4 := Lib.hid h4
  have HO := Lib.hid hO
  clear h1 h2 h3 h4 hO
  by_cases he : O = []
  · subst he
    have hz : (((0 : Nat) : Int) == 0) = true := by decide
    go_enter Try.func27, Try.ntmps27
    go_wp2_with fail
    go_ret
    exact ⟨rfl, Below.refl _ _⟩
  · have hlen : 0 < O.length := List.length_pos_iff.2 he
    have hz : (((O.length : Nat) : Int) == 0) = false := by simp; omega
    have hiso : O.isEmpty = false := by simpa using he
    obtain ⟨j0, hj0, hid0, hS0⟩ := idxSy_mem (HO.out _ (List.getElem_mem hlen))
    obtain ⟨a1, o1, rfl, hb1, d0, d1, d2⟩ := H1.out.sy_at hlen
    simp only [Nat.zero_mul, Nat.add_zero] at d0 d1 d2
    have hj0' : j0 < (S.map c).length := by simpa using hj0
    have Hid0 := Lib.hid hid0
    have HS0 := Lib.hid hS0
    have Hiso := Lib.hid hiso
    clear he hid0 hS0 hiso
    go_enter Try.func27, Try.ntmps27
    go_wp2_with (go_at_call 24
                 refine (at_any S O[0] _ _ _ H2.out (by omega)).mono ?_
                 rintro e w1 ⟨rfl, hb1⟩
                 rw [Hid0.out]
                 obtain ⟨a3, o3, rfl, hb3, e0⟩ := (H3.out.low hb1 (by omega)).leaf_at (f := fun n : Nat => Value.int .i64 n) hj0'
                 simp only [List.getElem_map, HS0.out] at e0)
    obtain ⟨wo, rfl⟩ : ∃ wo : World, wo = w1 := ⟨_, rfl⟩
    have Hb1 := Lib.hid hb1
    clear hb1 d0 d1 d2 e0
    go_loopw [11, 12] (fun m i wr => ∃ k : Nat, k ≤ O.length ∧ i = .int .i64 k ∧ m = .int .i64 (leastTo c O k) ∧ Below w.heap.size w wr) (fun _ i _ => O.length - (intOf i).toNat)
    case atStart => exact ⟨0, Nat.zero_le _, rfl, by rw [leastTo_zero c O hlen], Hb1.out⟩
    case round =>
      clear Hb1
      obtain ⟨k, hk, rfl, rfl, hbel⟩ := hrel
      have hz2 := hbel.size
      have hle := leastTo_le c 1000 hc O k
      have Hbel := Lib.hid hbel
      clear hbel
      by_cases hlt : k < O.length
      · obtain ⟨j, hj, hid, hSj⟩ := idxSy_mem (HO.out _ (List.getElem_mem hlt))
        obtain ⟨a1', o1', ha1, hb1', d0, d1, d2⟩ := (H1.out.low Hbel.out hB).sy_at hlt
        injection ha1 with ha1
        injection ha1 with ha1 ha2 _
        subst ha1 ha2
        have hj' : j < (S.map c).length := by simpa using hj
        have hck := hc O[k]
        have Hid := Lib.hid hid
        have HSj := Lib.hid hSj
        have Hsucc := Lib.hid (leastTo_succ c O k hlt)
        clear hid hSj
        go_wp2_with (go_at_call 24
                     refine (at_any S O[k] _ _ _ (H2.out.low Hbel.out hB) (by omega)).mono ?_
                     rintro e w2 ⟨rfl, hb2⟩
                     rw [Hid.out]
                     obtain ⟨a3', o3', ha3, hb3', e0⟩ := ((H3.out.low Hbel.out hB).low hb2 (by omega)).leaf_at (f := fun n : Nat => Value.int .i64 n) hj'
                     injection ha3 with ha3
                     injection ha3 with ha3 ha4 _
                     subst ha3 ha4
                     simp only [List.getElem_map, HSj.out] at e0)
        go_roundw
        case rel => exact ⟨k + 1, by omega, by go_num, by rw [Hsucc.out]; congr 1; split <;> omega, Hbel.out.trans (hb2.mono hz2)⟩
        case measure => simp [intOf]; omega
      · obtain rfl : k = O.length := by omega
        have htr : trig c th tol O = O.any (trigs c th tol (least c O)) := by unfold trig; rw [Hiso.out]; rfl
        rw [show leastTo c O O.length = least c O from rfl] at hle ⊢
        generalize least c O = m at hle htr
        have Htr := Lib.hid htr
        clear htr hlt
        have hm0 : (0 : Int) ≤ (tol : Int) * (m : Int) := Int.mul_nonneg (by omega) (by omega)
        have hm1 : (tol : Int) * (m : Int) ≤ 1000000 := by
          have : tol * m ≤ 1000 * 1000 := Nat.mul_le_mul htol hle
          have h2 : ((tol * m : Nat) : Int) ≤ ((1000 * 1000 : Nat) : Int) := by omega
          rw [Int.natCast_mul] at h2
          omega
        go_wp2_with fail
        obtain ⟨wq, rfl⟩ : ∃ wq : World, wq = wr := ⟨_, rfl⟩
        go_loopw [13] (fun i wr => ∃ k : Nat, k ≤ O.length ∧ i = .int .i64 k ∧ (O.take k).any (trigs c th tol m) = false ∧ Below w.heap.size w wr) (fun i _ => O.length - (intOf i).toNat)
        case atStart => exact ⟨0, Nat.zero_le _, rfl, rfl, Hbel.out⟩
        case round =>
          clear Hbel hz2
          obtain ⟨k, hk, rfl, hno, hbel⟩ := hrel
          have hz2 := hbel.size
          have Hbel := Lib.hid hbel
          have Hno := Lib.hid hno
          clear hbel hno
          by_cases hlt : k < O.length
          · obtain ⟨j, hj, hid, hSj⟩ := idxSy_mem (HO.out _ (List.getElem_mem hlt))
            obtain ⟨a1', o1', ha1, hb1', d0, d1, d2⟩ := (H1.out.low Hbel.out hB).sy_at hlt
            injection ha1 with ha1
            injection ha1 with ha1 ha2 _
            subst ha1 ha2
            have hj' : j < (S.map c).length := by simpa using hj
            have hj4 : j < (S.map th).length := by simpa using hj
            obtain ⟨a4, o4, rfl, _, _⟩ := H4.out.leaf_at (f := fun b : Bool => Value.bool b) hj4
            have hck := hc O[k]
            have hsn : (O.take (k + 1)).any (trigs c th tol m) = trigs c th tol m O[k] := by
              rw [List.take_succ_eq_append_getElem hlt, List.any_append, Hno.out]; simp
            have Hid := Lib.hid hid
            have HSj := Lib.hid hSj
            have Hsn := Lib.hid hsn
            clear hid hSj hsn
            cases hth : th O[k] with
            | false =>
              have htf : trigs c th tol m O[k] = false := by unfold trigs; rw [hth]; rfl
              have Hth := Lib.hid hth
              have Htf := Lib.hid htf
              clear hth htf
              go_wp2_with (go_at_call 24
                           refine (at_any S O[k] _ _ _ (H2.out.low Hbel.out hB) (by omega)).mono ?_
                           rintro e w2 ⟨rfl, hb2⟩
                           rw [Hid.out]
                           obtain ⟨a4', o4', ha4, hb4', e4⟩ := ((H4.out.low Hbel.out hB).low hb2 (by omega)).leaf_at (f := fun b : Bool => Value.bool b) hj4
                           injection ha4 with ha4
                           injection ha4 with ha4 ha5 _
                           subst ha4 ha5
                           simp only [List.getElem_map, HSj.out, Hth.out] at e4)
              go_roundw
              case rel => exact ⟨k + 1, by omega, by go_num, by rw [Hsn.out, Htf.out], Hbel.out.trans (hb2.mono hz2)⟩
              case measure => simp [intOf]; omega
            | true =>
              have Hth := Lib.hid hth
              clear hth
              by_cases hcm : 10 * c O[k] ≤ tol * m
              · have hcm' : (10 : Int) * (c O[k] : Int) ≤ (tol : Int) * (m : Int) := by
                  rw [← Int.natCast_mul]; omega
                have htf : trigs c th tol m O[k] = true := by unfold trigs; rw [Hth.out]; simp [hcm]
                have Htf := Lib.hid htf
                clear htf hcm
                go_wp2_with (go_at_call 24
                             refine (at_any S O[k] _ _ _ (H2.out.low Hbel.out hB) (by omega)).mono ?_
                             rintro e w2 ⟨rfl, hb2⟩
                             rw [Hid.out]
                             obtain ⟨a4', o4', ha4, hb4', e4⟩ := ((H4.out.low Hbel.out hB).low hb2 (by omega)).leaf_at (f := fun b : Bool => Value.bool b) hj4
                             injection ha4 with ha4
                             injection ha4 with ha4 ha5 _
                             subst ha4 ha5
                             simp only [List.getElem_map, HSj.out, Hth.out] at e4
                             obtain ⟨a3', o3', ha3, hb3', e0⟩ := ((H3.out.low Hbel.out hB).low hb2 (by omega)).leaf_at (f := fun n : Nat => Value.int .i64 n) hj'
                             injection ha3 with ha3
                             injection ha3 with ha3 ha4 _
                             subst ha3 ha4
                             simp only [List.getElem_map, HSj.out] at e0)
                go_ret
                refine ⟨?_, Hbel.out.trans (hb2.mono hz2)⟩
                have hany : O.any (trigs c th tol m) = true := List.any_eq_true.2 ⟨O[k], List.getElem_mem hlt, Htf.out⟩
                rw [Htr.out, hany]
                rfl
              · have hcm' : ¬ (10 : Int) * (c O[k] : Int) ≤ (tol : Int) * (m : Int) := by
                  rw [← Int.natCast_mul]; omega
                have htf : trigs c th tol m O[k] = false := by unfold trigs; rw [Hth.out]; simp [hcm]
                have Htf := Lib.hid htf
                clear htf hcm
                go_wp2_with (go_at_call 24
                             refine (at_any S O[k] _ _ _ (H2.out.low Hbel.out hB) (by omega)).mono ?_
                             rintro e w2 ⟨rfl, hb2⟩
                             rw [Hid.out]
                             obtain ⟨a4', o4', ha4, hb4', e4⟩ := ((H4.out.low Hbel.out hB).low hb2 (by omega)).leaf_at (f := fun b : Bool => Value.bool b) hj4
                             injection ha4 with ha4
                             injection ha4 with ha4 ha5 _
                             subst ha4 ha5
                             simp only [List.getElem_map, HSj.out, Hth.out] at e4
                             obtain ⟨a3', o3', ha3, hb3', e0⟩ := ((H3.out.low Hbel.out hB).low hb2 (by omega)).leaf_at (f := fun n : Nat => Value.int .i64 n) hj'
                             injection ha3 with ha3
                             injection ha3 with ha3 ha4 _
                             subst ha3 ha4
                             simp only [List.getElem_map, HSj.out] at e0)
                go_roundw
                case rel => exact ⟨k + 1, by omega, by go_num, by rw [Hsn.out, Htf.out], Hbel.out.trans (hb2.mono hz2)⟩
                case measure => simp [intOf]; omega
          · have hany : O.any (trigs c th tol m) = false := by
              have := Hno.out
              rwa [List.take_of_length_le (by omega)] at this
            have Hany := Lib.hid hany
            clear hany
            go_wp2_with fail
            go_ret
            refine ⟨?_, Hbel.out⟩
            rw [Htr.out, Hany.out]
            rfl

end Go.Proofs.Ytikgjappablbhaa
