/-
  Walk over law17.SineTurned.
-/
import Derived.Test.YtikgjappablbhaaMore
namespace Go.Proofs.Ytikgjappablbhaa
open Go.RowKit

theorem entT : SliceTy Try.prog 22 43 7 120 := sliceTy Try.underlying22 (z := .agg #[.bool false, .string ByteArray.empty, .string ByteArray.empty, .int .i64 0, .slice none 0 0, .slice none 0 0, .slice none 0 0]) (by kernel_rfl) rfl (by omega)

/-- A slice of the call's own whose rows read. -/
theorem Own.rd_rows {w : World} {base size : Nat} {e : TypeId} {v : Value} {rows : List (List Value)} {trs : List (List Tr)} (h : Own w base e size v rows) (hpos : 0 < size) (hl : trs.length = rows.length) (hs : ∀ r ∈ trs, r.length = size) (hn : rows.length ≤ 1000000)
    (hr : ∀ k (h : k < trs.length) (h' : k < rows.length), RowRd w w.heap.size trs[k] rows[k]) : Rd w w.heap.size (.sl size trs) v := by
  obtain ⟨A, c, hv, hc, hm⟩ := h.form
  subst hv
  by_cases h0 : rows.length = 0
  · have e0 : trs = [] := List.eq_nil_of_length_eq_zero (by omega)
    subst e0
    have e1 : rows = [] := List.eq_nil_of_length_eq_zero h0
    subst e1
    rcases h.1.2 with ⟨h0, _⟩ | ⟨g, cap, cur, hv, hb, hg, hnc, hcm, hcs, htake⟩
    · injection h0 with h0 _ hc0
      subst h0
      subst hc0
      exact .none_ _
    · injection hv with hA hl' hcc
      subst hA
      exact Rd.row size g 0 c [] (fun _ _ => undef) (by simp) (by simp) (by simp) hm (Array.getElem?_eq_some_iff.1 hg).1 (fun k j hk => by simp at hk) (fun k hk => by simp at hk)
  · obtain ⟨g, hA, hb, hg, _, _⟩ := Own.row_at (k := 0) h (by omega) hpos
    subst hA
    have := Rd.row (w := w) (B := w.heap.size) size g 0 c trs (fun k j => ((rows[k]?.getD [])[j]?).getD undef) hs (by omega) (by omega) hm hg
      (fun k j hk hj => by
        obtain ⟨g', hA', _, _, hcell, _⟩ := Own.row_at (k := k) h (by omega) hpos
        injection hA' with hA'
        injection hA' with hA'
        subst hA'
        have hk' : k < rows.length := by omega
        have hj' : j < rows[k].length := by rw [h.2 _ (List.getElem_mem hk')]; exact hj
        have := hcell j hj
        rw [List.getElem?_eq_getElem hk', Nat.zero_add]
        simpa [hj'] using this)
      (fun k hk j hj => by
        have hk' : k < rows.length := by omega
        have hj' : j < rows[k].length := by rw [h.2 _ (List.getElem_mem hk'), ← hs _ (List.getElem_mem hk)]; exact hj
        rw [List.getElem?_eq_getElem hk']
        simpa [hj'] using hr k hk hk' j hj hj')
    rw [hl] at this
    exact this

theorem few_rot {l : List En} (h : Few l) (t : Nat) : Few (rot l t) := by
  refine ⟨by rw [rot_len]; exact h.1, fun x hx => h.2 x ?_⟩
  unfold rot at hx
  rcases List.mem_append.1 hx with hx | hx
  · exact List.mem_of_mem_drop hx
  · exact List.mem_of_mem_take hx

theorem answer_rot_len {l : List En} {t : Nat} (tol dep : Int) (ht : t < l.length) : (answer (rot l t) tol dep).length = (answer l tol dep).length := by
  unfold answer
  split
  · exact picked_rot_len _ _ ht
  · rfl
theorem answer_rot {l : List En} {t : Nat} {tol dep : Int} (ht : t < l.length) {i : Nat} (h : i ∈ answer (rot l t) tol dep) : i < l.length ∧ frm l t i ∈ answer l tol dep := by
  unfold answer at h ⊢
  split at h
  · rename_i ho
    rw [if_pos ho]
    have := (mem_picked.1 h).1
    rw [rot_len] at this
    exact ⟨this, picked_rot ht h⟩
  · simp at h

theorem turn_at (tu : Int) {n : Nat} (hp : 0 < n) (hn : n ≤ 300) : ∃ t : Nat, t < n ∧ (wrap64 (tu.tmod n + n)).tmod n = (t : Int) := by
  have h1 := Int.tmod_lt_of_pos tu (b := (n : Int)) (by omega)
  have h2 := Int.lt_tmod_of_pos tu (b := (n : Int)) (by omega)
  generalize tu.tmod n = r at h1 h2
  obtain ⟨X, hX⟩ : ∃ X : Nat, r + n = X := ⟨(r + n).toNat, by omega⟩
  have hw : wrap64 (r + n) = X := by unfold wrap64; omega
  refine ⟨X % n, Nat.mod_lt _ hp, ?_⟩
  rw [hw, Int.tmod_eq_emod_of_nonneg (by omega)]
  rfl
theorem frm_int (l : List En) (t k : Nat) : ((k : Int) + t).tmod l.length = (frm l t k : Int) := by
  rw [Int.tmod_eq_emod_of_nonneg (by omega)]
  rfl

set_option maxRecDepth 100000 in
set_option maxHeartbeats 2000000 in
theorem turned_any (l : List En) (tol dep tu : Int) (v : Value) (B : Nat) (w : World) (hr : Rd w B (.sl 7 (l.map encEn)) v) (hB : B ≤ w.heap.size) :
    Calls Try.prog 6 #[v, .int .i64 tol, .int .i64 dep, .int .i64 tu] w (fun e w' => e = .returned (.bool true) ∧ Below w.heap.size w w') := by
  obtain ⟨A, c, rfl, hc, hn, hm⟩ := hr.sl_form
  rw [List.length_map] at hc hn hr ⊢
  have Hr := Lib.hid hr
  clear hr
  unfold maxLen at hm
  by_cases hl0 : l.length = 0
  · have hz0 : ((l.length : Int) == 0) = true := by rw [hl0]; rfl
    clear hl0
    go_enter Try.func6, Try.ntmps6
    go_wp2_with (first
      | (go_at_call 8
         refine (great14_any l _ B _ Hr.out hB).mono ?_
         rintro e w1 ⟨g, rfl, hg, hb1⟩
         have Hb1 := Lib.hid hb1
         have hz1 := hb1.size
         clear hg hb1
         cases g)
      | (go_at_call 9
         refine (wakes_any _).mono ?_
         rintro e w9 ⟨rfl, hb9⟩))
    all_goals
      go_ret
      exact ⟨rfl, Hb1.out.trans (hb9.mono hz1)⟩
  · have hz0 : ((l.length : Int) == 0) = false := by rw [beq_eq_false_iff_ne]; omega
    have hpos : 0 < l.length := by omega
    clear hl0
    go_enter Try.func6, Try.ntmps6
    go_upto_region 3 with (first
      | (go_at_call 8
         refine (great14_any l _ B _ Hr.out hB).mono ?_
         rintro e w1 ⟨g, rfl, hg, hb1⟩
         have Hg := Lib.hid hg
         have Hb1 := Lib.hid hb1
         have hz1 := hb1.size
         clear hg hb1
         cases g)
      | (go_at_call 9
         refine (wakes_any _).mono ?_
         rintro e w9 ⟨rfl, hb9⟩))
    rotate_left
    · go_ret
      exact ⟨rfl, Hb1.out.trans (hb9.mono hz1)⟩
    have Hf := Lib.hid (Hg.out (by simp))
    clear Hg
    have hl3 := Hf.out.1
    go_upto_region 4 with fail
    obtain ⟨t, ht, he⟩ := turn_at tu hpos hl3
    rw [he]
    clear he
    go_wp2_with fail
    go_loopw [9, 10] (fun u i wr => ∃ k : Nat, k ≤ l.length ∧ i = .int .i64 k ∧ ∃ rows : List (List Value), Own wr w1.heap.size 43 7 u rows ∧ rows.length = k ∧ (∀ j (h : j < rows.length) (h2 : j < (rot l t).length), RowRd w1 B (encEn (rot l t)[j]) rows[j]) ∧ Below w1.heap.size w1 wr) (fun _ i _ => l.length - (intOf i).toNat)
    case atStart => exact ⟨0, Nat.zero_le _, rfl, [], Own.nil _ _ _ _, rfl, fun j h => by simp at h, Below.refl _ _⟩
    case round =>
      obtain ⟨k, hk, rfl, rows, hown, hrl, hrows, hbel⟩ := hrel
      have hz3 := hbel.size
      have Hown := Lib.hid hown
      have Hrows := Lib.hid hrows
      have Hbel := Lib.hid hbel
      clear hown hrows hbel
      by_cases hlt : k < l.length
      · have hfl := frm_lt ht k
        have hfi := frm_int l t k
        have hro := rot_get l t k ht hlt
        change _ = l[frm l t k] at hro
        generalize frm l t k = q at hfl hfi hro
        have Hro := Lib.hid hro
        clear hro
        obtain ⟨ab, off, o, v, tt, aa, rfl, hb, c0, c1, c2, c3, c4, c5, c6, hrd⟩ := ((Hr.out.low Hb1.out hB).low Hbel.out (by omega)).en_at hfl
        obtain ⟨ab', off', o', v', tt', aa', hA', hb', d0, d1, d2, d3, d4, d5, d6, hrd'⟩ := (Hr.out.low Hb1.out hB).en_at hfl
        injection hA' with hA'
        injection hA' with hA1 hA2
        subst hA1
        subst hA2
        have hsame : o = o' ∧ v = v' ∧ tt = tt' ∧ aa = aa' := by
          have key := fun o => Hbel.out.cell (p := ⟨ab, o, none⟩) (by simp; omega)
          rw [key, d3] at c3
          rw [key, d4] at c4
          rw [key, d5] at c5
          rw [key, d6] at c6
          injection c3 with c3
          injection c3 with _ c3
          injection c4 with c4
          injection c5 with c5
          injection c6 with c6
          exact ⟨c3.symm, c4.symm, c5.symm, c6.symm⟩
        obtain ⟨rfl, rfl, rfl, rfl⟩ := hsame
        clear d0 d1 d2 d3 d4 d5 d6 hrd hb'
        obtain ⟨A1, A2, A3, n1, n2, n3, cc1, cc2, cc3, rfl, rfl, rfl⟩ := hrd'.forms
        have Hrd := Lib.hid hrd'
        clear hrd'
        go_wp2_with (at_builtin
                     refine wpList_push _ rfl (.tmp 40) (.tmp 50) _ rfl entT (base := w1.heap.size) (rows := rows) rfl (by exact Hown.out.alloc _) (g := wr.heap.size) (cells := #[.bool l[q].cnf, .string l[q].name, .string l[q].role, .int .i64 o, .slice A1 n1 cc1, .slice A2 n2 cc2, .slice A3 n3 cc3]) rfl (heap_alloc_new wr _) rfl (by simp [Value.oneCell']) (by omega) (by unfold maxLen; omega) (by simp; omega) ?_
                     intro v4 w4 hown4 hup4 _
                     have Hown4 := Lib.hid hown4
                     have Hup4 := Lib.hid hup4
                     clear hown4 hup4)
        go_roundw
        case rel =>
          refine ⟨k + 1, by omega, by go_num, rows ++ [[.bool l[q].cnf, .string l[q].name, .string l[q].role, .int .i64 o, .slice A1 n1 cc1, .slice A2 n2 cc2, .slice A3 n3 cc3]], Hown4.out, by simp [hrl], fun j h h2 => ?_, ?_⟩
          · by_cases hj : j < rows.length
            · rw [List.getElem_append_left hj]
              exact Hrows.out j hj h2
            · have hj2 : j = rows.length := by simp at h; omega
              subst hj2
              subst hrl
              rw [List.getElem_append_right (Nat.le_refl _), Hro.out]
              simp only [Nat.sub_self, List.getElem_cons_zero]
              exact en_row Hrd.out
          · exact (Hbel.out.trans ((below_box wr _).mono (by omega))).trans (Hup4.out.toLow (by simp; omega) (fun i hi => ((Hown.out.alloc (.cells #[.bool l[q].cnf, .string l[q].name, .string l[q].role, .int .i64 o, .slice A1 n1 cc1, .slice A2 n2 cc2, .slice A3 n3 cc3] 43)).lt i hi).1))
        case measure => simp [intOf]; omega
      · have hkk : k = l.length := by omega
        have hrm : Rd wr wr.heap.size (.sl 7 ((rot l t).map encEn)) _ := Hown.out.rd_rows (by omega) (by rw [List.length_map, rot_len, hrl, hkk]) (by intro r hr; obtain ⟨x, _, rfl⟩ := List.mem_map.1 hr; exact encEn_len x) (by omega) (fun j h h' => by
          have h2 : j < (rot l t).length := by rwa [List.length_map] at h
          rw [List.getElem_map]
          have := Hrows.out j h' h2
          intro i hi hi'
          exact ((this i hi hi').low Hbel.out (by omega)).more (by omega))
        obtain ⟨Am, cm, hvm, hcm, hnm, hmm⟩ := hrm.sl_form
        rw [List.length_map, rot_len] at hvm hcm
        subst hvm
        have Hrm := Lib.hid hrm
        clear hrm
        generalize hx1 : errno tol dep = x1
        have Hx1 := Lib.hid hx1
        clear hx1
        go_upto_region 10 with (go_at_call 13
                                refine (progChoose_any l tol dep _ B _ ((Hr.out.low Hb1.out hB).low Hbel.out (by omega)) (by omega) Hf.out).mono ?_
                                rintro e w2 ⟨va, rfl, hoa, hb2⟩
                                rw [Hx1.out]
                                obtain ⟨Aa, ca, hva, hca, hma⟩ := hoa.form
                                rw [List.length_map] at hva hca
                                subst hva
                                have Hoa := Lib.hid hoa
                                have Hb2 := Lib.hid hb2
                                have hz2 := hb2.size
                                clear hoa hb2)
        go_upto_region 11 with (go_at_call 13
                                refine (progChoose_any (rot l t) tol dep _ _ _ (Hrm.out.low Hb2.out (Nat.le_refl _)) hz2 (few_rot Hf.out t)).mono ?_
                                rintro e w3 ⟨vb, rfl, hob, hb3⟩
                                rw [Hx1.out]
                                obtain ⟨Ab, cb, hvb, hcb, hmb⟩ := hob.form
                                rw [List.length_map] at hvb hcb
                                subst hvb
                                have Hob := Lib.hid hob
                                have Hb3 := Lib.hid hb3
                                have hz3 := hb3.size
                                clear hob hb3)
        have hla := answer_len l tol dep
        have hlen := answer_rot_len (l := l) tol dep ht
        have HRa := Lib.hid (own_rd_n (Hoa.out.low Hb3.out) (by omega))
        have HRb := Lib.hid (own_rd_n Hob.out (by omega))
        have HB3 := Lib.hid ((Hb1.out.trans (Hbel.out.mono hz1)).trans ((Hb2.out.mono (by omega)).trans (Hb3.out.mono (by omega))))
        have hsub : ∀ x ∈ answer (rot l t) tol dep, x < l.length ∧ frm l t x ∈ answer l tol dep := fun x hx => answer_rot ht hx
        have Hsub := Lib.hid hsub
        clear hsub Hoa Hob Hr Hb1 Hb2 Hb3 Hrm Hown Hrows Hbel
        rw [hlen] at HRb hcb ⊢
        generalize answer l tol dep = a at Hsub HRa HRb hca hcb hla hlen
        generalize answer (rot l t) tol dep = b at Hsub HRb hlen
        unfold maxLen at hma hmb
        go_wp2_with fail
        go_loopw [15] (fun i w' => ∃ k : Nat, k ≤ a.length ∧ i = .int .i64 k ∧ w' = w3) (fun i _ => a.length - (intOf i).toNat)
        case atStart => exact ⟨0, Nat.zero_le _, rfl, rfl⟩
        case round =>
          obtain ⟨k2, hk2, rfl, rfl⟩ := hrel
          by_cases hlt2 : k2 < a.length
          · have hlb : k2 < b.length := by omega
            obtain ⟨ab, off, rfl, hb, c0⟩ := HRb.out.leaf_at hlb
            obtain ⟨hx1, hx2⟩ := Hsub.out _ (List.getElem_mem hlb)
            generalize b[k2] = x at c0 hx1 hx2
            have hfi := frm_int l t x
            have hfl := frm_lt ht x
            generalize frm l t x = q at hfi hfl hx2
            have hin : decide (∃ y ∈ a, (y : Int) = (q : Int)) = true := decide_eq_true ⟨q, hx2, rfl⟩
            have Hin := Lib.hid hin
            clear hin hx2
            go_wp2_with (go_at_call 15
                         refine (in_any _ _ _ _ _ (by exact HRa.out)).mono ?_
                         rintro e w5 ⟨rfl, rfl⟩
                         rw [Hin.out])
            go_roundw
            case rel => exact ⟨k2 + 1, by omega, by go_num, trivial⟩
            case measure => simp [intOf]; omega
          · go_wp2_with (go_at_call 9
                         refine (wakes_any _).mono ?_
                         rintro e w9 ⟨rfl, hb9⟩)
            go_ret
            exact ⟨rfl, HB3.out.trans (hb9.mono (by omega))⟩

end Go.Proofs.Ytikgjappablbhaa
