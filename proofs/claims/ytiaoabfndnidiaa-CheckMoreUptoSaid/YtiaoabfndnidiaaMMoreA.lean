/-
  Part 13 of the proof over the checker: walks and plain laws.
-/
import Derived.Test.YtiaoabfndnidiaaML
set_option maxRecDepth 100000
set_option maxHeartbeats 8000000
set_option linter.unusedSimpArgs false
set_option linter.unusedVariables false
namespace Go.Proofs.Ytiaoabfndnidiaa
open Go.RowKit
theorem makes_more (inp more : List Cl) (ps : List Sp) (s : Sp) (h : s.rule = 1 → s.lits.length = 1 → litI s 0 < (inp.length : Int)) : makesM (inp ++ more) ps s = makesM inp ps s := by
 unfold makesM
 by_cases hr : s.rule = 1
 · rw [if_pos hr, if_pos hr]
   cases hn : numbersB s 0 1 0 false with
   | false => rw [if_pos (.inl rfl), if_pos (.inl rfl)]
   | true =>
     have hl : s.lits.length = 1 := by unfold numbersB at hn; simp at hn; exact hn.1.1.2
     have hi := h hr hl
     by_cases h0 : litI s 0 < 0
     · rw [if_pos (.inr (.inl h0)), if_pos (.inr (.inl h0))]
     have hli : li s 0 < inp.length := by
      have : li s 0 = (litI s 0).toNat := rfl
      omega
     rw [if_neg, if_neg, List.getElem?_append_left hli]
     · rintro (h | h | h)
       · cases h
       · exact h0 h
       omega
     rintro (h | h | h)
     · cases h
     · exact h0 h
     rw [List.length_append] at h; omega
 rw [if_neg hr, if_neg hr]
theorem step_more (inp more : List Cl) (ps : List Sp) (k : Nat) (hk : k < ps.length) (h : ps[k].rule = 1 → ps[k].lits.length = 1 → litI ps[k] 0 < (inp.length : Int)) : stepM (inp ++ more) ps k = stepM inp ps k := by
 unfold stepM
 rw [Int.toNat_natCast, List.getElem?_eq_getElem hk]
 simp only [makes_more inp more ps ps[k] h]
theorem makes_take (inp : List Cl) (ps : List Sp) (s : Sp) (n : Nat) (h : ∀ j ∈ s.parents, 0 ≤ j ∧ j < n) : makesM inp (ps.take n) s = makesM inp ps s := by
 have hp : parC (ps.take n) s = parC ps s := by
  unfold parC
  refine List.map_congr_left fun j hj => ?_
  obtain ⟨h0, h1⟩ := h j hj
  rw [List.getElem?_take_of_lt (by omega)]
 unfold makesM
 rw [hp]
theorem step_take (inp : List Cl) (ps : List Sp) (k : Nat) (hk : k < ps.length) : stepM inp (ps.take (k + 1)) k = stepM inp ps k := by
 have hl : (ps.take (k + 1)).length = k + 1 := by rw [List.length_take]; omega
 unfold stepM
 rw [Int.toNat_natCast, List.getElem?_take_of_lt (by omega), List.getElem?_eq_getElem hk, hl, decide_eq_true (show ((k : Nat) : Int) < ((k + 1 : Nat) : Int) by omega), decide_eq_true (show ((k : Nat) : Int) < ((ps.length : Nat) : Int) by omega)]
 cases ha : ps[k].parents.any fun j => decide (j < 0) || decide ((k : Int) ≤ j) with
 | true => simp only [ha, Bool.not_true, Bool.and_false, Bool.false_and]
 | false =>
   simp only []
   rw [makes_take inp ps ps[k] (k + 1) fun j hj => ?_]
   have := List.any_eq_false.1 ha j hj
   simp at this
   omega
theorem step_ok_take {ps : List Sp} (h : StepOk ps) (n : Nat) : StepOk (ps.take n) :=
 ⟨fun q hq => h.rng q (List.mem_of_mem_take hq), fun q hq => h.sz q (List.mem_of_mem_take hq), fun q hq => h.par q (List.mem_of_mem_take hq)⟩
theorem leaf_cls {l : List Cl} : ∀ r ∈ (l.map fun c => [encCl c]), ∀ t ∈ r, ∀ y, t = Tr.leaf y → y.oneCell' = true := by
 intro r hr t ht y hy
 obtain ⟨c, _, rfl⟩ := List.mem_map.1 hr
 obtain rfl := List.mem_singleton.1 ht
 cases hy
theorem more_any (inp more : List Cl) (ps : List Sp) (n : Int) (vi vm vl : Value) (B : Nat) (w : World) (hi : Rd w B (encCls inp) vi) (hm : Rd w B (encCls more) vm) (hp : Rd w B (encSps ps) vl) (hB : B ≤ w.heap.size)
 (hok : StepOk ps) (hzi : ∀ c ∈ inp, sizeC c ≤ 2000000) (hzm : ∀ c ∈ more, sizeC c ≤ 2000000) (hzp : ∀ s ∈ ps, sizeC s.clause ≤ 2000000) (hli : inp.length ≤ 2000000) (hlm : more.length ≤ 2000000) :
 Calls Try.prog 4 #[vi, vm, vl, .int .i64 n] w (BoolRes true w) := by
 obtain ⟨Ai, ci, rfl, hi1, hi2, hi3⟩ := Rd.row_form (show Rd w B (.sl 1 (inp.map fun c => [encCl c])) vi from hi)
 obtain ⟨Am, cm, rfl, hm1, hm2, hm3⟩ := Rd.row_form (show Rd w B (.sl 1 (more.map fun c => [encCl c])) vm from hm)
 obtain ⟨Ap, cp, rfl, hp1, hp2, hp3⟩ := Rd.row_form (show Rd w B (.sl 6 (ps.map encSp)) vl from hp)
 have Hi := Lh hi
 have Hm := Lh hm
 have Hp := Lh hp
 have Hok := Lh hok
 have Hzi := Lh hzi
 have Hzm := Lh hzm
 have Hzp := Lh hzp
 clear hi hm hp hok hzi hzm hzp
 go_enter Try.func4, Try.ntmps4
 go_wp2_with fail
 refine (great_any inp _ B w Hi.out Hzi.out hB).mono ?_
 rintro e w1 ⟨b1, rfl, hb1⟩
 have Hb1 := Lh hb1
 clear hb1
 cases b1 with
 | true =>
   go_wp2_with (
    go_at_call 11
    refine (wakes_any _).mono ?_
    rintro e w4 ⟨rfl, hb4⟩)
   go_ret
   exact ⟨rfl, Hb1.out.trans (hb4.mono Hb1.out.size)⟩
 | false =>
 go_wp2_with fail
 refine (great_any more _ B w1 (Hm.out.low Hb1.out hB) Hzm.out (by have := Hb1.out.size; omega)).mono ?_
 rintro e w2 ⟨b2, rfl, hb2⟩
 have Hb2 := Lh (Hb1.out.trans (hb2.mono Hb1.out.size))
 clear hb2 Hb1
 cases b2 with
 | true =>
   go_wp2_with (
    go_at_call 11
    refine (wakes_any _).mono ?_
    rintro e w4 ⟨rfl, hb4⟩)
   go_ret
   exact ⟨rfl, Hb2.out.trans (hb4.mono Hb2.out.size)⟩
 | false =>
 go_wp2_with fail
 refine (great29_any ps _ B w2 (Hp.out.low Hb2.out hB) Hzp.out (by have := Hb2.out.size; omega)).mono ?_
 rintro e w3 ⟨b3, rfl, hb3⟩
 have Hb3 := Lh (Hb2.out.trans (hb3.mono Hb2.out.size))
 clear hb3 Hb2
 cases b3 with
 | true =>
   go_wp2_with (
    go_at_call 11
    refine (wakes_any _).mono ?_
    rintro e w4 ⟨rfl, hb4⟩)
   go_ret
   exact ⟨rfl, Hb3.out.trans (hb4.mono Hb3.out.size)⟩
 | false =>
 by_cases hn0 : n < 0
 · go_wp2_with (
  go_at_call 11
  refine (wakes_any _).mono ?_
  rintro e w4 ⟨rfl, hb4⟩)
   go_ret
   exact ⟨rfl, Hb3.out.trans (hb4.mono Hb3.out.size)⟩
 obtain ⟨k, rfl⟩ : ∃ k : Nat, n = (k : Int) := ⟨n.toNat, by omega⟩
 by_cases hnl : (ps.length : Int) ≤ (k : Int)
 · go_wp2_with (
  go_at_call 11
  refine (wakes_any _).mono ?_
  rintro e w4 ⟨rfl, hb4⟩)
   go_ret
   exact ⟨rfl, Hb3.out.trans (hb4.mono Hb3.out.size)⟩
 have hk : k < ps.length := by omega
 obtain ⟨pb, po, u1, u2, u3, u4, u5, rfl, hpb, p0, p1, p2, p3, p4, p5, hsn⟩ := (Hp.out.low Hb3.out hB).sp_at hk
 have hmo := step_more inp more ps k hk
 have hta := step_take inp ps k hk
 obtain ⟨s, hs⟩ : ∃ s, ps[k] = s := ⟨_, rfl⟩
 rw [hs] at p0 hsn hmo
 obtain ⟨A1, c1, A2, c2, A3, c3, A4, c4, A5, c5, rfl, rfl, rfl, rfl, rfl, -⟩ := hsn.forms
 have Hmo := Lh hmo
 have Hta := Lh hta
 have hli2 := hsn.lits
 have Hli2 := Lh hli2
 clear hmo hta hs hli2 hsn
 have hcase : (s.rule == 1) = true ∧ (∃ a2 o2 i, A2 = some ⟨a2, o2, none⟩ ∧ (s.lits.length : Int) = 1 ∧ w3.cell? ⟨a2, o2, none⟩ = some (.int .i64 i) ∧ (inp.length : Int) ≤ i) ∨
  (stepM (inp ++ more) ps (k : Nat) = stepM inp ps (k : Nat)) ∧ ((s.rule == 1) = false ∨ (s.rule == 1) = true ∧ (¬ ((s.lits.length : Int) = 1) ∨ ∃ a2 o2 i, A2 = some ⟨a2, o2, none⟩ ∧ (s.lits.length : Int) = 1 ∧ w3.cell? ⟨a2, o2, none⟩ = some (.int .i64 i) ∧ ¬ ((inp.length : Int) ≤ i))) := by
  by_cases hr : s.rule = 1
  · have hr1 : (s.rule == 1) = true := by simp [hr]
    by_cases hl1 : s.lits.length = 1
    · obtain ⟨a2, o2, hA2, ha2, q0⟩ := Rd.leaf_at (f := fun n => .int .i64 n) (show Rd w3 B (.sl 1 (s.lits.map fun n => [.leaf (.int .i64 n)])) _ from Hli2.out) (k := 0) (by omega)
      have hit : s.lits[0]'(by omega) = litI s 0 := by unfold litI; rw [List.getElem?_eq_getElem (by omega)]; rfl
      rw [hit] at q0
      simp only [Nat.add_zero] at q0
      by_cases hge : (inp.length : Int) ≤ litI s 0
      · exact .inl ⟨hr1, a2, o2, _, hA2, by omega, q0, hge⟩
      exact .inr ⟨Hmo.out (fun _ _ => by omega), .inr ⟨hr1, .inr ⟨a2, o2, _, hA2, by omega, q0, hge⟩⟩⟩
    exact .inr ⟨Hmo.out (fun _ h => absurd h hl1), .inr ⟨hr1, .inl (by omega)⟩⟩
  exact .inr ⟨Hmo.out (fun h _ => absurd h hr), .inl (by simp [hr])⟩
 clear Hmo
 rcases hcase with ⟨hr1, a2, o2, i, rfl, hl1, q0, hge⟩ | ⟨hmo, hc⟩
 · go_wp2_with (
  go_at_call 11
  refine (wakes_any _).mono ?_
  rintro e w4 ⟨rfl, hb4⟩)
   go_ret
   exact ⟨rfl, Hb3.out.trans (hb4.mono Hb3.out.size)⟩
 have Hmo := Lh hmo
 clear hmo
 rcases hc with hr1 | ⟨hr1, hl1 | ⟨a2, o2, i, rfl, hl1, q0, hge⟩⟩
 all_goals
  have hb3z := Hb3.out.size
  have hkz : ¬ ((k : Int) + 1 < 0) := by omega
  have hkc : ((k : Int) + 1) ≤ (cp : Int) := by omega
  go_upto_region 5 with (first
   | (
    at_builtin
    (refine wpList_appendR _ rfl (.tmp 60) (.tmp 61) _ rfl clsT (M := fun b => b < B) (base := w3.heap.size) (v := .slice none 0 0) (trs := []) rfl (OwnR.nil _ _ _ _ _) (u := .slice Ai inp.length ci) (news := inp.map fun c => [encCl c]) rfl (((Hi.out.low Hb3.out hB).rdP (by omega)).more fun b hb _ => ⟨.inl hb, fun e => by cases e⟩) leaf_cls (by simp; omega) (by unfold maxLen; simp; omega) (Nat.le_refl _) ?_)
    intro v5 w5 hown5 hup5 _
    have Hown5 := Lh hown5
    have hlow5 : Below w3.heap.size w3 w5 := hup5.toLow (Nat.le_refl _) (fun k e => by cases e)
    have Hlow5 := Lh hlow5
    clear hown5 hup5 hlow5)
   | (
    at_builtin
    go_loud (refine wpList_appendR _ rfl (.tmp 62) (.tmp 63) _ rfl clsT (M := fun b => b < B) (base := w3.heap.size) (v := v5) (trs := [] ++ inp.map fun c => [encCl c]) rfl Hown5.out (u := .slice Am more.length cm) (news := more.map fun c => [encCl c]) rfl (((Hm.out.low (Hb3.out.trans (Hlow5.out.mono hb3z)) hB).rdP (by have := Hlow5.out.size; omega)).more fun b hb _ => ⟨.inl hb, fun e => by have := (Hown5.out.lt _ e).1; omega⟩) leaf_cls (by simp; omega) (by unfold maxLen; simp; omega) Hlow5.out.size ?_)
    intro v6 w6 hown6 hup6 _
    have hrd6 := (hown6.rd (by simp; omega)).rd'
    rw [List.nil_append, ← List.map_append] at hrd6
    have hrd6 : Rd w6 w6.heap.size (encCls (inp ++ more)) v6 := hrd6
    obtain ⟨A6, c6, rfl, -, -, -⟩ := Rd.row_form (show Rd w6 w6.heap.size (.sl 1 ((inp ++ more).map fun c => [encCl c])) v6 from hrd6)
    rw [List.length_append] at hrd6 ⊢
    have hlow6 : Below w3.heap.size w3 w6 := Hlow5.out.trans (hup6.toLow Hlow5.out.size (fun k e => (Hown5.out.lt _ e).1))
    have Hlow6 := Lh hlow6
    have Hrd6 := Lh hrd6
    clear hown6 hup6 hlow6 hrd6))
  obtain ⟨b, hb⟩ : ∃ b, stepM inp ps (k : Nat) = b := ⟨_, rfl⟩
  rw [hb] at Hmo Hta
  have Hb := Lh hb
  have hlow36 := Hlow6.out.size
  have h46 : Below w.heap.size w w6 := Hb3.out.trans (Hlow6.out.mono hb3z)
  have H46 := Lh h46
  clear hb h46 Hlow5 Hown5
  refine rg 27 (fun _ w' => Below w6.heap.size w6 w') ?_
  intro wd hwd hbd
  refine ⟨?_, fun hS => ?_⟩
  · exact hwd ▸ hbd
  refine ta 0 (.slice Ai inp.length ci) hS fun hS => ?_
  refine ta 1 (.slice (some ⟨pb, po, none⟩) ps.length cp) hS fun hS => ?_
  refine ta 2 (.int .i64 (k : Nat)) hS fun hS => ?_
  refine ta 4 (.slice A6 (inp.length + more.length) c6) hS fun hS => ?_
  refine ta 5 (.slice (some ⟨pb, po, none⟩) ps.length cp) hS fun hS => ?_
  refine ta 6 (.int .i64 (k : Nat)) hS fun hS => ?_
  refine so 3 ?_
  have hbd6 : Below w6.heap.size w6 wd := hwd ▸ hbd
  have hzd : wd.heap.size = w6.heap.size := by rw [hwd]
  have h4d := H46.out.trans (hbd6.mono (by omega))
  have hc1 := step_any inp ps k _ _ B wd (Hi.out.low h4d hB) (Hp.out.low h4d hB) (by omega) Hok.out
  rw [Hb.out] at hc1
  refine wp_enter ?_ hc1 ?_
  · simp [execOp, resolve, invoke, go_sem]
  rintro e w7 ⟨rfl, hb7⟩
  refine ⟨_, rfl, ?_⟩
  refine gS ?_ fun hS => ?_
  · exact hS.trans (hb7.mono hS.size)
  refine so 7 ?_
  have hz7 := hb7.size
  have h67 := hbd6.trans (hb7.mono (by omega))
  have h47 := H46.out.trans (h67.mono (by omega))
  have hc2 := step_any (inp ++ more) ps k _ _ w6.heap.size w7 (Hrd6.out.low h67 (Nat.le_refl _)) ((Hp.out.low h47 hB).more (by omega)) (by omega) Hok.out
  rw [Hmo.out] at hc2
  refine wp_enter ?_ hc2 ?_
  · simp [execOp, resolve, invoke, go_sem]
  rintro e w8 ⟨rfl, hb8⟩
  refine ⟨_, rfl, ?_⟩
  refine gS ?_ fun hS => ?_
  · exact hS.trans (hb8.mono hS.size)
  refine ta 8 (.bool true) hS fun hS => ?_
  refine ta 9 (.bool true) hS fun hS => ?_
  refine ta 10 (.slice Ai inp.length ci) hS fun hS => ?_
  refine ta 11 (.slice (some ⟨pb, po, none⟩) ps.length cp) hS fun hS => ?_
  refine ta 12 (.int .i64 (k : Nat)) hS fun hS => ?_
  refine ta 14 (.slice Ai inp.length ci) hS fun hS => ?_
  refine ta 15 (.slice (some ⟨pb, po, none⟩) ps.length cp) hS fun hS => ?_
  refine ta 16 (.int .i64 (k : Nat)) hS fun hS => ?_
  refine tk 17 (.int .i64 ((k : Int) + 1)) hS ?_ fun hS => ?_
  · intros; simp [execOp, go_sem, wr64 ((k : Int) + 1) (by omega)]
  refine tk 18 (.slice (some ⟨pb, po, none⟩) (k + 1) cp) hS ?_ fun hS => ?_
  · intros; simp [execOp, go_sem, hkc, hkz]
  refine ta 19 (.int .i64 (k : Nat)) hS fun hS => ?_
  refine so 13 ?_
  have hz8 := hb8.size
  have h48 := h47.trans (hb8.mono (by omega))
  have hc3 := step_any inp ps k _ _ B w8 (Hi.out.low h48 hB) (Hp.out.low h48 hB) (by omega) Hok.out
  rw [Hb.out] at hc3
  refine wp_enter ?_ hc3 ?_
  · simp [execOp, resolve, invoke, go_sem]
  rintro e w9 ⟨rfl, hb9⟩
  refine ⟨_, rfl, ?_⟩
  refine gS ?_ fun hS => ?_
  · exact hS.trans (hb9.mono hS.size)
  refine so 20 ?_
  have hz9 := hb9.size
  have h49 := h48.trans (hb9.mono (by omega))
  have htk : Rd w9 B (encSps (ps.take (k + 1))) (.slice (some ⟨pb, po, none⟩) (k + 1) cp) := by
   have := Rd.takeN (k := k + 1) (show Rd w9 B (.sl 6 (ps.map encSp)) _ from Hp.out.low h49 hB) (by rw [List.length_map]; omega) (by omega)
   rw [← List.map_take] at this
   exact this
  have hc4 := step_any inp (ps.take (k + 1)) k _ _ B w9 (Hi.out.low h49 hB) htk (by omega) (step_ok_take Hok.out _)
  rw [Hta.out] at hc4
  refine wp_enter ?_ hc4 ?_
  · simp [execOp, resolve, invoke, go_sem]
  rintro e w10 ⟨rfl, hb10⟩
  refine ⟨_, rfl, ?_⟩
  refine gS ?_ fun hS => ?_
  · exact hS.trans (hb10.mono hS.size)
  refine ta 21 (.bool true) hS fun hS => ?_
  refine ta 22 (.bool true) hS fun hS => ?_
  refine ta 23 (.bool true) hS fun hS => ?_
  refine so 24 ?_
  refine wp_enter ?_ (wakes_any w10) ?_
  · simp [execOp, resolve, invoke, go_sem]
  rintro e w11 ⟨rfl, hb11⟩
  refine ⟨_, rfl, ?_⟩
  refine gS ?_ fun hS => ?_
  · exact hS.trans (hb11.mono hS.size)
  refine ta 25 (.bool true) hS fun hS => ?_
  refine ta 26 (.bool true) hS fun hS => ?_
  refine dn ?_
  have hfin := H46.out.trans (hS.mono (by omega))
  have Hfin := Lh hfin
  clear hS hwd hbd hb7 hb8 hb9 hb10 hb11 hc1 hc2 hc3 hc4 h47 h48 h49 h67 h4d hbd6 hfin htk
  go_wp2_with fail
  go_ret
  exact ⟨rfl, Hfin.out⟩
end Go.Proofs.Ytiaoabfndnidiaa
