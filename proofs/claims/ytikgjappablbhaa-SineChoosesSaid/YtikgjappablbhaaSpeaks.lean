/-
  Walks over law17.shares, law17.SineSpeaks.
-/
import Derived.Test.YtikgjappablbhaaTurned
namespace Go.Proofs.Ytikgjappablbhaa
open Go.RowKit

set_option maxHeartbeats 1000000 in
theorem shares_any (S : List Sy) (x : En) (o : Int) (v1 v2 v3 vS : Value) (B : Nat) (w : World) (hS : Rd w w.heap.size (.sl 3 (S.map encSy)) vS) (hx : RdF w B x.form o v1 v2 v3) (hB : B ≤ w.heap.size) (hn : nodesFm x.form ≤ 3000)
    (h : own x = [] ∨ ∃ y, y ∈ own x ∧ y ∈ S) :
    Calls Try.prog 17 #[vS, .agg #[.bool x.cnf, .string x.name, .string x.role, .int .i64 o, v1, v2, v3]] w fun e w' => e = .returned (.bool true) ∧ Below w.heap.size w w' := by
  obtain ⟨A, c, rfl, hc, hns, hm⟩ := hS.sl_form
  rw [List.length_map] at hc hns hS ⊢
  unfold maxLen at hm
  have HS := Lib.hid hS
  have Hx := Lib.hid hx
  have H := Lib.hid h
  have hlo := own_len x
  clear hS hx h
  go_enter Try.func17, Try.ntmps17
  go_upto_region 2 with (go_at_call 16
                         refine (symbols_any _ x.form o v1 v2 v3 _ [] B _ _ (Nat.le_refl _) (Hx.out.low (below_box w _) hB) (by simp; omega) (Nat.le_refl _) (Own.nil _ _ _ _) (by simp; omega)).mono ?_
                         rintro e w1 ⟨vo, rfl, hown, hup, _⟩
                         have Hown := Lib.hid hown
                         have Hup := Lib.hid hup
                         clear hown hup)
  have hb1 : Below w.heap.size w w1 := (below_box w (.cells #[.bool x.cnf, .string x.name, .string x.role, .int .i64 o, v1, v2, v3] 43)).trans (Hup.out.toLow (by simp) (by simp [Value.ownBlock]))
  have hz1 := hb1.size
  have ho : Own w1 w.heap.size 31 3 vo ((own x).map svs) := Hown.out.base_le (by simp)
  obtain ⟨Ao, co, hvo, hco, hmo⟩ := ho.form
  rw [List.length_map] at hvo hco
  subst hvo
  have HO := Lib.hid (own_rd_sy ho (by omega))
  have HS1 := Lib.hid (HS.out.low hb1 (Nat.le_refl _))
  have Hb1 := Lib.hid hb1
  clear hb1 ho Hown Hup HS
  generalize own x = O at HO H hlo hco
  unfold maxLen at hmo
  go_wp2_with fail
  go_loopw [6] (fun i wr => ∃ k : Nat, k ≤ O.length ∧ i = .int .i64 k ∧ (∀ y ∈ O.take k, y ∉ S) ∧ Below w1.heap.size w1 wr) (fun i _ => O.length - (intOf i).toNat)
  case atStart => exact ⟨0, Nat.zero_le _, rfl, by simp, Below.refl _ _⟩
  case round =>
    obtain ⟨k, hk, rfl, hno, hbel⟩ := hrel
    have hz2 := hbel.size
    have Hno := Lib.hid hno
    have Hbel := Lib.hid hbel
    clear hno hbel
    by_cases hlt : k < O.length
    · go_wp2_with fail
      obtain ⟨wo, rfl⟩ : ∃ wo : World, wo = wr := ⟨_, rfl⟩
      go_loopw [7] (fun i w' => ∃ k2 : Nat, k2 ≤ S.length ∧ i = .int .i64 k2 ∧ (∀ y ∈ S.take k2, O[k] ≠ y) ∧ Below w1.heap.size w1 w') (fun i _ => S.length - (intOf i).toNat)
      case atStart => exact ⟨0, Nat.zero_le _, rfl, by simp, Hbel.out⟩
      case round =>
        obtain ⟨k2, hk2, rfl, hne, hbel2⟩ := hrel
        have hz3 := hbel2.size
        have Hne := Lib.hid hne
        have Hbel2 := Lib.hid hbel2
        clear hne hbel2
        by_cases hlt2 : k2 < S.length
        · obtain ⟨a1, o1, rfl, hl1, c0, c1, c2⟩ := (HO.out.low Hbel2.out (Nat.le_refl _)).sy_at hlt
          obtain ⟨a2, o2, rfl, hl2, d0, d1, d2⟩ := ((HS1.out.more hz1).low Hbel2.out (Nat.le_refl _)).sy_at hlt2
          have hq := run_eq_sy O[k].1 S[k2].1 O[k].2.1 S[k2].2.1 O[k].2.2 S[k2].2.2
          by_cases heq : O[k] = S[k2]
          · have hs : sameB O[k].1 S[k2].1 O[k].2.1 S[k2].2.1 O[k].2.2 S[k2].2.2 = true := by rw [sameB_iff]; simp [heq]
            clear heq
            go_wp2_with fail
            go_quiet (fail)
            go_wp2_with fail
            go_ret
            exact ⟨rfl, Hb1.out.trans ((drewN_low Hbel2.out _).mono hz1)⟩
          · have hs : sameB O[k].1 S[k2].1 O[k].2.1 S[k2].2.1 O[k].2.2 S[k2].2.2 = false := by rw [sameB_iff]; simp [heq]
            have Heq := Lib.hid heq
            clear heq
            go_wp2_with fail
            go_quiet (fail)
            go_wp2_with fail
            go_roundw
            case rel =>
              refine ⟨k2 + 1, by omega, by go_num, fun y hy => ?_, drewN_low Hbel2.out _⟩
              rw [List.take_succ_eq_append_getElem hlt2] at hy
              rcases List.mem_append.1 hy with h | h
              · exact Hne.out y h
              · rw [List.mem_singleton.1 h]; exact Heq.out
            case measure => simp [intOf]; omega
        · have hkk : k2 = S.length := by omega
          subst hkk
          go_wp2_with fail
          go_roundw
          case rel =>
            refine ⟨k + 1, by omega, by go_num, fun y hy => ?_, Hbel2.out⟩
            rw [List.take_succ_eq_append_getElem hlt] at hy
            rcases List.mem_append.1 hy with h | h
            · exact Hno.out y h
            · rw [List.mem_singleton.1 h]
              intro hm
              exact Hne.out _ (by rw [List.take_length]; exact hm) rfl
          case measure => simp [intOf]; omega
    · have hkk : k = O.length := by omega
      subst hkk
      have hO : O = [] := by
        rcases H.out with h | ⟨y, h1, h2⟩
        · exact h
        · exact absurd h2 (Hno.out y (by rw [List.take_length]; exact h1))
      have hz0 : ((O.length : Int) == 0) = true := by rw [hO]; rfl
      clear hO
      go_wp2_with fail
      go_ret
      exact ⟨rfl, Hb1.out.trans (Hbel.out.mono hz1)⟩

/-- The symbols of the others among those chosen. -/
def oth (l : List En) (a : List Nat) (i : Nat) : Nat → List Sy
  | 0 => []
  | k + 1 => if k = i then oth l a i k else addAll (oth l a i k) ((l[a.getD k 0]?.map own).getD [])
theorem mem_oth {l : List En} {a : List Nat} {i : Nat} {s : Sy} : ∀ {k}, s ∈ oth l a i k ↔ ∃ j, j < k ∧ j ≠ i ∧ s ∈ (l[a.getD j 0]?.map own).getD []
  | 0 => by simp [oth]
  | k + 1 => by
    unfold oth
    by_cases h : k = i
    · rw [if_pos h, mem_oth]
      constructor
      · rintro ⟨j, h1, h2, h3⟩; exact ⟨j, by omega, h2, h3⟩
      · rintro ⟨j, h1, h2, h3⟩; exact ⟨j, by omega, h2, h3⟩
    · rw [if_neg h, mem_addAll, mem_oth]
      constructor
      · rintro (⟨j, h1, h2, h3⟩ | h3)
        · exact ⟨j, by omega, h2, h3⟩
        · exact ⟨k, by omega, h, h3⟩
      · rintro ⟨j, h1, h2, h3⟩
        by_cases hj : j = k
        · subst hj; exact .inr h3
        · exact .inl ⟨j, by omega, h2, h3⟩
theorem oth_len {l : List En} (h : Few l) (a : List Nat) (i : Nat) : ∀ k, (oth l a i k).length ≤ k * 3000
  | 0 => by simp [oth]
  | k + 1 => by
    unfold oth
    have ih := oth_len h a i k
    rw [Nat.succ_mul]
    split
    · exact Nat.le_trans ih (Nat.le_add_right _ _)
    · have h1 := addAll_len (oth l a i k) ((l[a.getD k 0]?.map own).getD [])
      have h2 : ((l[a.getD k 0]?.map own).getD []).length ≤ 3000 := by
        cases hx : l[a.getD k 0]? with
        | none => simp
        | some x => exact Nat.le_trans (own_len x) (few_nodes h x (List.mem_of_getElem? hx))
      exact Nat.le_trans h1 (Nat.add_le_add ih h2)

/-- What a chosen entry shares with the others. -/
theorem speaks_oth {l : List En} {t d k : Nat} (ha : allIn l t = false) (hk : k < (picked l t d).length) (hl : (picked l t d)[k] < l.length) (hg : isGoal l[(picked l t d)[k]].role = false) :
    own l[(picked l t d)[k]] = [] ∨ ∃ y, y ∈ own l[(picked l t d)[k]] ∧ y ∈ oth l (picked l t d) k (picked l t d).length := by
  rcases picked_speaks ha (List.getElem_mem hk) hl hg with h | ⟨j, hj, hne, hm, y, h1, h2⟩
  · exact .inl h
  · obtain ⟨n, hn, rfl⟩ := List.getElem_of_mem hm
    refine .inr ⟨y, (hasSy_iff _ _).1 h1, mem_oth.2 ⟨n, hn, fun e => hne (by subst e; rfl), ?_⟩⟩
    rw [List.getD_eq_getElem?_getD, List.getElem?_eq_getElem hn, Option.getD_some, List.getElem?_eq_getElem hj]
    exact (hasSy_iff _ _).1 h2

set_option maxRecDepth 100000 in
set_option maxHeartbeats 2000000 in
theorem speaks_any (l : List En) (tol dep : Int) (v : Value) (B : Nat) (w : World) (hr : Rd w B (.sl 7 (l.map encEn)) v) (hB : B ≤ w.heap.size) :
    Calls Try.prog 7 #[v, .int .i64 tol, .int .i64 dep] w (fun e w' => e = .returned (.bool true) ∧ Below w.heap.size w w') := by
  obtain ⟨A, c, rfl, hc, hn, hm⟩ := hr.sl_form
  rw [List.length_map] at hc hn hr ⊢
  have Hr := Lib.hid hr
  clear hr
  unfold maxLen at hm
  have he1 := errno_cases tol dep
  generalize hx1 : errno tol dep = x1 at he1
  have Hx1 := Lib.hid hx1
  clear hx1
  go_enter Try.func7, Try.ntmps7
  go_upto_region 4 with (first
    | (go_at_call 8
       refine (great14_any l _ B _ Hr.out hB).mono ?_
       rintro e w1 ⟨g, rfl, hg, hb1⟩
       have Hg := Lib.hid hg
       have Hb1 := Lib.hid hb1
       have hz1 := hb1.size
       clear hg hb1
       cases g)
    | (go_at_call 13
       refine (progChoose_any l tol dep _ B _ (Hr.out.low Hb1.out hB) (by omega) (Hg.out (by simp))).mono ?_
       rintro e w2 ⟨va, rfl, hoa, hb2⟩
       rw [Hx1.out]
       obtain ⟨Aa, ca, hva, hca, hma⟩ := hoa.form
       rw [List.length_map] at hva hca
       subst hva
       have Hoa := Lib.hid hoa
       have Hb2 := Lib.hid hb2
       have hz2 := hb2.size
       clear hoa hb2)
    | (go_at_call 9
       refine (wakes_any _).mono ?_
       rintro e w9 ⟨rfl, hb9⟩))
  rotate_left
  · go_ret
    exact ⟨rfl, Hb1.out.trans (hb9.mono hz1)⟩
  have Hf := Lib.hid (Hg.out (by simp))
  clear Hg
  have hl3 := Hf.out.1
  have hla := answer_len l tol dep
  have HB2 := Lib.hid (Hb1.out.trans (Hb2.out.mono hz1))
  have HR2 := Lib.hid (Hr.out.low HB2.out hB)
  have HRa := Lib.hid (own_rd_n Hoa.out (by omega))
  clear Hoa Hr Hb1 Hb2
  unfold maxLen at hma
  go_wp2_with fail
  go_loopw [9, 10] (fun g i wr => ∃ k : Nat, k ≤ l.length ∧ i = .int .i64 k ∧ g = .bool ((l.take k).any fun x => isGoal x.role) ∧ wr = w2) (fun _ i _ => l.length - (intOf i).toNat)
  case atStart => exact ⟨0, Nat.zero_le _, rfl, by simp, rfl⟩
  case round =>
    obtain ⟨k, hk, rfl, rfl, rfl⟩ := hrel
    by_cases hlt : k < l.length
    · obtain ⟨ab, off, o, v, tt, aa, rfl, hb, c0, c1, c2, c3, c4, c5, c6, hrd⟩ := HR2.out.en_at hlt
      clear c0 c1 c3 c4 c5 c6 hrd
      have hsn : ((l.take (k + 1)).any fun x => isGoal x.role) = (((l.take k).any fun x => isGoal x.role) || isGoal l[k].role) := by
        rw [List.take_succ_eq_append_getElem hlt, List.any_append]; simp
      generalize ((l.take k).any fun x => isGoal x.role) = g0 at hsn
      have Hsn := Lib.hid hsn
      clear hsn
      cases g0 with
      | true =>
        go_wp2_with fail
        all_goals
          refine ⟨⟨k + 1, by omega, by go_num, by rw [Hsn.out]; simp, trivial⟩, ?_⟩
          simp [intOf]; omega
      | false =>
        go_wp2_with fail
        all_goals
          refine ⟨⟨k + 1, by omega, by go_num, by rw [Hsn.out]; unfold isGoal; simp [*], trivial⟩, ?_⟩
          simp [intOf]; omega
    · have hkk : k = l.length := by omega
      subst hkk
      rw [List.take_length]
      rcases he1 with ⟨rfl, h1⟩ | ⟨rfl, h1⟩
      · obtain ⟨t, d, rfl, rfl⟩ := argsOk_nat h1
        rw [answer_ok h1] at HRa hca hla ⊢
        clear h1 Hx1
        cases hal : allIn l t with
        | true =>
          have hlen : (picked l t d).length = l.length := by
            unfold picked
            simp only [hal, Bool.true_or]
            rw [List.filter_eq_self.2 (by simp), List.length_range]
          have hz0 : (((picked l t d).length : Int) == (l.length : Int)) = true := by rw [hlen]; simp
          rw [hlen]
          have hcs : ((t : Int) == 0) = true ∨ (((t : Int) == 0) = false ∧ (l.any fun x => isGoal x.role) = false) := by
            unfold allIn at hal
            simp only [Bool.or_eq_true, decide_eq_true_eq, Bool.not_eq_true'] at hal
            by_cases h0 : t = 0
            · left; rw [h0]; rfl
            · right
              exact ⟨by rw [beq_eq_false_iff_ne]; omega, by rcases hal with h | h; exact absurd h h0; exact h⟩
          clear hal hlen
          rcases hcs with hcs | ⟨hcs, hg⟩
          · go_wp2_with (go_at_call 9
                         refine (wakes_any _).mono ?_
                         rintro e w9 ⟨rfl, hb9⟩)
            go_ret
            exact ⟨rfl, HB2.out.trans (hb9.mono (by omega))⟩
          · rw [hg]
            go_wp2_with (go_at_call 9
                         refine (wakes_any _).mono ?_
                         rintro e w9 ⟨rfl, hb9⟩)
            go_ret
            exact ⟨rfl, HB2.out.trans (hb9.mono (by omega))⟩
        | false =>
          have hcs : ((t : Int) == 0) = false ∧ (l.any fun x => isGoal x.role) = true := by
            have h := hal
            unfold allIn at h
            simp only [Bool.or_eq_false_iff, decide_eq_false_iff_not, Bool.not_eq_false'] at h
            exact ⟨by rw [beq_eq_false_iff_ne]; omega, h.2⟩
          obtain ⟨hcs, hg⟩ := hcs
          rw [hg]
          have hsp : ∀ k (hk : k < (picked l t d).length) (hl : (picked l t d)[k] < l.length), isGoal l[(picked l t d)[k]].role = false → own l[(picked l t d)[k]] = [] ∨ ∃ y, y ∈ own l[(picked l t d)[k]] ∧ y ∈ oth l (picked l t d) k (picked l t d).length := fun k hk hl hg => speaks_oth hal hk hl hg
          have hlt : ∀ x ∈ picked l t d, x < l.length := fun x hx => (mem_picked.1 hx).1
          have Hsp := Lib.hid hsp
          have Hlt := Lib.hid hlt
          clear hsp hlt hal hg
          generalize picked l t d = a at Hsp Hlt HRa hca hla
          go_wp2_with fail
          obtain ⟨wo, rfl⟩ : ∃ wo : World, wo = wr := ⟨_, rfl⟩
          go_loopw [11] (fun i w' => ∃ k : Nat, k ≤ a.length ∧ i = .int .i64 k ∧ Below wo.heap.size wo w') (fun i _ => a.length - (intOf i).toNat)
          case atStart => exact ⟨0, Nat.zero_le _, rfl, Below.refl _ _⟩
          case round =>
            obtain ⟨k2, hk2, rfl, hbel⟩ := hrel
            have hz3 := hbel.size
            have Hbel := Lib.hid hbel
            clear hbel
            by_cases hlt2 : k2 < a.length
            · obtain ⟨a1, o1, rfl, hl1, e0⟩ := (HRa.out.low Hbel.out (Nat.le_refl _)).leaf_at hlt2
              have hq := Hlt.out _ (List.getElem_mem hlt2)
              have hspk := Hsp.out k2 hlt2 hq
              have Hspk := Lib.hid hspk
              clear hspk
              generalize hqe : a[k2] = q at hq e0 Hspk
              clear hqe
              obtain ⟨ab, off, o, v, tt, aa, rfl, hb, c0, c1, c2, c3, c4, c5, c6, hrd⟩ := (HR2.out.low Hbel.out (Nat.le_trans hB HB2.out.size)).en_at hq
              obtain ⟨A1, A2, A3, n1, n2, n3, cc1, cc2, cc3, rfl, rfl, rfl⟩ := hrd.forms
              have hnf := few_nodes Hf.out l[q] (List.getElem_mem hq)
              have Hrd := Lib.hid hrd
              clear hrd
              cases hb1 : (l[q].role.toList == [99, 111, 110, 106, 101, 99, 116, 117, 114, 101]) with
              | true =>
                go_wp2_with fail
                go_roundw
                case rel => exact ⟨k2 + 1, by omega, by go_num, Hbel.out.trans ((below_box wr _).mono hz3)⟩
                case measure => simp [intOf]; omega
              | false =>
                cases hb2 : (l[q].role.toList == [110, 101, 103, 97, 116, 101, 100, 95, 99, 111, 110, 106, 101, 99, 116, 117, 114, 101]) with
                | true =>
                  go_wp2_with fail
                  go_roundw
                  case rel => exact ⟨k2 + 1, by omega, by go_num, Hbel.out.trans ((below_box wr _).mono hz3)⟩
                  case measure => simp [intOf]; omega
                | false =>
                  have hg : isGoal l[q].role = false := by unfold isGoal; rw [hb1, hb2]; rfl
                  have Hspk2 := Lib.hid (Hspk.out hg)
                  clear hg Hspk
                  go_upto_region 16 with fail
                  have hbx := heap_alloc_new wr (.cells #[.bool l[q].cnf, .string l[q].name, .string l[q].role, .int .i64 o, .slice A1 n1 cc1, .slice A2 n2 cc2, .slice A3 n3 cc3] 43)
                  have hbw := below_box wr (.cells #[.bool l[q].cnf, .string l[q].name, .string l[q].role, .int .i64 o, .slice A1 n1 cc1, .slice A2 n2 cc2, .slice A3 n3 cc3] 43)
                  generalize wr.alloc (.cells #[.bool l[q].cnf, .string l[q].name, .string l[q].role, .int .i64 o, .slice A1 n1 cc1, .slice A2 n2 cc2, .slice A3 n3 cc3] 43) = wb at hbx hbw ⊢
                  have hz4 := hbw.size
                  have HBw := Lib.hid (Hbel.out.trans (hbw.mono hz3))
                  have HRa4 := Lib.hid (HRa.out.low HBw.out (Nat.le_refl _))
                  have HR4 := Lib.hid (HR2.out.low HBw.out (Nat.le_trans hB HB2.out.size))
                  have Hbx := Lib.hid hbx
                  have Hrd4 := Lib.hid (Hrd.out.low hbw (by have := HB2.out.size; omega))
                  have hB4 : B ≤ wb.heap.size := by have := HB2.out.size; omega
                  clear hbx hbw e0 c0 c1 c2 c3 c4 c5 c6 Hrd hb1 hb2
                  go_wp2_with fail
                  obtain ⟨wx, rfl⟩ : ∃ wx : World, wx = wr := ⟨_, rfl⟩
                  go_loopw [13, 14] (fun u j w' => ∃ k3 : Nat, k3 ≤ a.length ∧ j = .int .i64 k3 ∧ Own w' wb.heap.size 31 3 u ((oth l a k2 k3).map svs) ∧ Below wb.heap.size wb w') (fun _ j _ => a.length - (intOf j).toNat)
                  case atStart => exact ⟨0, Nat.zero_le _, rfl, Own.nil _ _ _ _, Below.refl _ _⟩
                  case round =>
                    obtain ⟨k3, hk3, rfl, hown, hbel4⟩ := hrel
                    have hz5 := hbel4.size
                    have hol := oth_len Hf.out a k2 k3
                    have Hown := Lib.hid hown
                    have Hbel4 := Lib.hid hbel4
                    clear hown hbel4
                    by_cases hlt3 : k3 < a.length
                    · by_cases hkk : k3 = k2
                      · have hs : oth l a k2 (k3 + 1) = oth l a k2 k3 := by show (if k3 = k2 then _ else _) = _; rw [if_pos hkk]
                        have Hs := Lib.hid hs
                        clear hs
                        subst hkk
                        go_wp2_with fail
                        go_roundw
                        case rel => exact ⟨k3 + 1, by omega, by go_num, by rw [Hs.out]; exact Hown.out, Hbel4.out⟩
                        case measure => simp [intOf]; omega
                      · obtain ⟨q3, hqa⟩ : ∃ q3, a[k3]? = some q3 := ⟨_, List.getElem?_eq_getElem hlt3⟩
                        have hq3 : q3 < l.length := Hlt.out _ (List.mem_of_getElem? hqa)
                        have hs : oth l a k2 (k3 + 1) = addAll (oth l a k2 k3) (own l[q3]) := by
                          show (if k3 = k2 then _ else _) = _
                          rw [if_neg hkk, List.getD_eq_getElem?_getD, hqa, Option.getD_some, List.getElem?_eq_getElem hq3]
                          rfl
                        have Hs := Lib.hid hs
                        clear hs
                        have hk4 : ((k3 : Int) != (k2 : Int)) = true := by rw [bne_iff_ne]; omega
                        obtain ⟨a1', o1', hA1, hl1', e0⟩ := (HRa4.out.low Hbel4.out (by omega)).leaf_at hlt3
                        injection hA1 with hA1
                        injection hA1 with hA1 hA2
                        subst hA1
                        subst hA2
                        have hqe : a[k3] = q3 := by rw [List.getElem?_eq_getElem hlt3] at hqa; injection hqa
                        rw [hqe] at e0
                        clear hqe hqa
                        obtain ⟨ab', off', o', v', tt', aa', hA', hb', d0, d1, d2, d3, d4, d5, d6, hrd'⟩ := (HR4.out.low Hbel4.out hB4).en_at hq3
                        injection hA' with hA'
                        injection hA' with hA1 hA2
                        subst hA1
                        subst hA2
                        obtain ⟨B1, B2, B3, m1, m2, m3, dd1, dd2, dd3, rfl, rfl, rfl⟩ := hrd'.forms
                        have hnf3 := few_nodes Hf.out l[q3] (List.getElem_mem hq3)
                        have Hrd3 := Lib.hid hrd'
                        clear hrd' d0 d1 d2
                        go_wp2_with (go_at_call 16
                                     refine (symbols_any _ l[q3].form _ _ _ _ _ (oth l a k2 k3) B wb.heap.size _ (Nat.le_refl _) Hrd3.out hB4 hz5 Hown.out (by omega)).mono ?_
                                     rintro e w5 ⟨vo, rfl, hown5, hup5, _⟩
                                     have Hown5 := Lib.hid hown5
                                     have Hup5 := Lib.hid hup5
                                     clear hown5 hup5)
                        go_roundw
                        case rel => exact ⟨k3 + 1, by omega, by go_num, by rw [Hs.out, ← symsFm_own]; exact Hown5.out, Hbel4.out.trans (Hup5.out.toLow hz5 (fun i hi => (Hown.out.lt i hi).1))⟩
                        case measure => simp [intOf]; omega
                    · have hkk : k3 = a.length := by omega
                      subst hkk
                      have hbx5 := (Hbel4.out.block wx.heap.size (ltOf Hbx.out)).trans Hbx.out
                      have eb := fun o => cell_of_row _ wx.heap.size o _ _ _ hbx5
                      have Hsh := Lib.hid (own_rd_sy Hown.out (by omega))
                      have Hrd5 := Lib.hid (Hrd4.out.low Hbel4.out hB4)
                      clear hbx5
                      obtain ⟨Au, cu, hvu, hcu, hmu⟩ := Hown.out.form
                      rw [List.length_map] at hvu hcu
                      subst hvu
                      go_wp2_with (go_at_call 17
                                   refine (shares_any (oth l a k2 a.length) l[q] o _ _ _ _ B _ Hsh.out Hrd5.out (by omega) hnf Hspk2.out).mono ?_
                                   rintro e w6 ⟨rfl, hb6⟩
                                   have Hb6 := Lib.hid hb6
                                   have hz6 := hb6.size
                                   clear hb6)
                      go_roundw
                      case rel => exact ⟨k2 + 1, by omega, by go_num, HBw.out.trans ((Hbel4.out.trans (Hb6.out.mono hz5)).mono (by omega))⟩
                      case measure => simp [intOf]; omega
            · go_wp2_with (go_at_call 9
                           refine (wakes_any _).mono ?_
                           rintro e w9 ⟨rfl, hb9⟩)
              go_ret
              exact ⟨rfl, HB2.out.trans ((Hbel.out.trans (hb9.mono hz3)).mono (by omega))⟩
      · go_wp2_with (go_at_call 9
                     refine (wakes_any _).mono ?_
                     rintro e w9 ⟨rfl, hb9⟩)
        go_ret
        exact ⟨rfl, HB2.out.trans (hb9.mono (by omega))⟩

end Go.Proofs.Ytikgjappablbhaa
