/-
  Walk over sine.Choose.
-/
import Derived.Test.YtikgjappablbhaaSineG
namespace Go.Proofs.Ytikgjappablbhaa
open Go.RowKit

def ChooseRes (w : World) (l : List En) (tol dep : Int) (e : Ending) (w' : World) : Prop :=
  ∃ v, e = .returned (.tuple #[v, .int .i64 (errno tol dep)]) ∧ Own w' w.heap.size 3 1 v ((answer l tol dep).map nvs) ∧ Below w.heap.size w w'

/-- A return without marks. -/
theorem endM_nil {F : Fence} {n : Nat} {P : Program} {fn : Func} {R : Ending → World → Prop} {a : Act} {w : World} {v : Value} (hr : (results fn a.tmps).run P w = .ok v w) (hd : a.defers = []) (hR : R (.returned v) w) :
    bodyPostM F n P fn R .ret a w := by
  show LeavesInM F n P fn a.tmps R a.defers .returning w
  rw [hd]
  exact ⟨v, hr, hR⟩

/-- What holds of the chooser's parts, at Choose. -/
structure MkSt (w0 w : World) (d cb gc gt gh : Nat) (ov : Value) (tol : Nat) (fc : Sy → Option Value) (s : ChS) (ow : List (List Sy)) : Prop where
  ch : ChT w cb gc gt gh ov tol fc (setF s.2)
  hh : MapF w gh natV (setF s.1)
  tb : OvT w w0.heap.size ov ow
  hd : w.heap[w0.heap.size]? = some (.cells #[.int .i64 d] 3 (0, 0))
  bel : Below w0.heap.size w0 w
  gs : w0.heap.size < cb ∧ w0.heap.size < gc ∧ w0.heap.size < gt ∧ w0.heap.size < gh
  ne : gt ≠ gh ∧ gc ≠ gt ∧ gc ≠ gh

section
variable {w0 w w' : World} {d cb gc gt gh : Nat} {ov : Value} {tol : Nat} {fc fc' : Sy → Option Value} {s s' : ChS} {ow : List (List Sy)}
theorem MkSt.size (h : MkSt w0 w d cb gc gt gh ov tol fc s ow) : w0.heap.size ≤ w.heap.size := h.bel.size
theorem MkSt.low (h : MkSt w0 w d cb gc gt gh ov tol fc s ow) (hb : Below w.heap.size w w') : MkSt w0 w' d cb gc gt gh ov tol fc s ow :=
  ⟨h.ch.low hb, h.hh.low hb, h.tb.low hb, (hb.block _ (ltOf h.hd)).trans h.hd, h.bel.trans (hb.mono h.size), h.gs, h.ne⟩
theorem MkSt.alloc (h : MkSt w0 w d cb gc gt gh ov tol fc s ow) (o : Obj) : MkSt w0 (w.alloc o) d cb gc gt gh ov tol fc s ow := h.low (below_box w o)
theorem MkSt.maps {F : Nat → Prop} (h : MkSt w0 w d cb gc gt gh ov tol fc s ow) (hu : Upd w w' F) (hF : ∀ g, F g → g = gc ∨ g = gt ∨ g = gh) (hc : MapF w' gc symV fc') (ht : MapF w' gt symV (setF s'.2)) (hh : MapF w' gh natV (setF s'.1)) :
    MkSt w0 w' d cb gc gt gh ov tol fc' s' ow := by
  have hne : ∀ {b : Nat} {cs : Array Value} {t : TypeId} {fr : Nat × Nat}, w.heap[b]? = some (.cells cs t fr) → ¬ F b := fun hb hf => by
    rcases hF _ hf with e | e | e
    · exact cells_ne_map hb h.ch.hc e
    · exact cells_ne_map hb h.ch.ht e
    · exact cells_ne_map hb h.hh e
  exact ⟨⟨(hu.block _ (ltOf h.ch.hb) (hne h.ch.hb)).trans h.ch.hb, hc, ht⟩, hh, h.tb.upd hu (fun g cs t fr hf hb => absurd hf (hne hb)), (hu.block _ (ltOf h.hd) (hne h.hd)).trans h.hd,
    h.bel.trans (hu.toLow h.size (fun g hg => by have := h.gs; rcases hF g hg with e | e | e <;> omega)), h.gs, h.ne⟩
theorem MkSt.cong (h : MkSt w0 w d cb gc gt gh ov tol fc s ow) (hf : ∀ s, fc' s = fc s) : MkSt w0 w d cb gc gt gh ov tol fc' s ow :=
  ⟨⟨h.ch.hb, h.ch.hc.congr hf, h.ch.ht⟩, h.hh, h.tb, h.hd, h.bel, h.gs, h.ne⟩
theorem Own.ne_mapF {K : Type} [DecidableEq K] {base size : Nat} {e : TypeId} {v : Value} {rows : List (List Value)} {g : Nat} {enc : K → Value} {f : K → Option Value} (h : Own w base e size v rows) (hm : MapF w g enc f) : v.ownBlock ≠ some g := by
  obtain ⟨es, c, kv, hg, _⟩ := hm
  exact h.ne_map hg
theorem hasSy_take_succ {S : List Sy} {k : Nat} (hk : k < S.length) (s : Sy) : hasSy (S.take (k + 1)) s = (decide (s = S[k]) || hasSy (S.take k) s) := by
  rw [Bool.eq_iff_iff]
  simp only [hasSy_iff, Bool.or_eq_true, decide_eq_true_eq]
  rw [List.take_succ_eq_append_getElem hk, List.mem_append, List.mem_singleton]
  exact Or.comm
theorem MkSt.fc_set (h : MkSt w0 w d cb gc gt gh ov tol fc s ow) (hm : MapF w' gc symV fc') (hu : Upd w w' (fun k => k = gc)) : MkSt w0 w' d cb gc gt gh ov tol fc' s ow :=
  h.maps hu (fun _ hg => .inl hg) hm (h.ch.ht.upd hu (fun e => h.ne.2.1 e.symm)) (h.hh.upd hu (fun e => h.ne.2.2 e.symm))
theorem MkSt.ft_set {q : Sy → Bool} (h : MkSt w0 w d cb gc gt gh ov tol fc s ow) (hm : MapF w' gt symV (setF q)) (hu : Upd w w' (fun k => k = gt)) : MkSt w0 w' d cb gc gt gh ov tol fc (s.1, q) ow :=
  h.maps hu (fun _ hg => .inr (.inl hg)) (h.ch.hc.upd hu h.ne.2.1) hm (h.hh.upd hu (fun e => h.ne.1 e.symm))
theorem MkSt.fh_set {p : Nat → Bool} (h : MkSt w0 w d cb gc gt gh ov tol fc s ow) (hm : MapF w' gh natV (setF p)) (hu : Upd w w' (fun k => k = gh)) : MkSt w0 w' d cb gc gt gh ov tol fc (p, s.2) ow :=
  h.maps hu (fun _ hg => .inr (.inr hg)) (h.ch.hc.upd hu h.ne.2.2) (h.ch.ht.upd hu h.ne.1) hm
end

theorem own_block_ne {w : World} {base size : Nat} {e : TypeId} {v : Value} {rows : List (List Value)} {b : Nat} {cs : Array Value} {t : TypeId} {fr : Nat × Nat} (h : Own w base e size v rows) (hb : w.heap[b]? = some (.cells cs t fr)) (hne : t ≠ e) : ∀ i, v.ownBlock = some i → i ≠ b :=
  fun i hi e => h.ne_cells hb hne (by rw [hi, e])

theorem own_rd_sy {w : World} {base : Nat} {v : Value} {o : List Sy} (h : Own w base 31 3 v (o.map svs)) (hn : o.length ≤ 1000000) : Rd w w.heap.size (.sl 3 (o.map encSy)) v := by
  have := h.rd (by rw [List.length_map]; omega)
  have e : (o.map svs).map (fun r => r.map Tr.leaf) = o.map encSy := by simp [svs, encSy]
  rw [e] at this
  exact this

/-- The table's new row, stored in the chooser. -/
theorem MkSt.push {w0 w w' : World} {d cb gc gt gh : Nat} {ov ov' v : Value} {tol : Nat} {fc : Sy → Option Value} {s : ChS} {ow : List (List Sy)} {o : List Sy} {vals : List Value} (h : MkSt w0 w d cb gc gt gh ov tol fc s ow)
    (h1 : Own w w0.heap.size 25 1 ov (vals.map fun v => [v])) (h2 : vals.length = ow.length) (h3 : ∀ j (h : j < vals.length) (h' : j < ow.length), Own w w0.heap.size 31 3 vals[j] (ow[j].map svs))
    (hv : Own w w0.heap.size 31 3 v (o.map svs)) (hown : Own w' w0.heap.size 25 1 ov' ((vals.map fun v => [v]) ++ [[v]])) (hu : Upd w w' (fun k => ov.ownBlock = some k)) :
    MkSt w0 (w'.setCell ⟨cb, 0, none⟩ ov') d cb gc gt gh ov' tol fc s (ow ++ [o]) := by
  have hcb : w'.heap[cb]? = some (.cells #[ov, .map (some gc), .map (some gt), .map (some gh), .int .i64 tol] 64 (0, 0)) := (hu.block _ (ltOf h.ch.hb) (h1.ne_cells h.ch.hb (by decide))).trans h.ch.hb
  have hcb2 : (w'.setCell ⟨cb, 0, none⟩ ov').heap[cb]? = some (.cells #[ov', .map (some gc), .map (some gt), .map (some gh), .int .i64 tol] 64 (0, 0)) := (heap_setCell_same w' cb 0 _ _ _ hcb).trans rfl
  have hs : Upd w' (w'.setCell ⟨cb, 0, none⟩ ov') (fun k => k = cb) := (Upd.refl w' _).setCell _ _ (.inl rfl)
  have map : ∀ {K : Type} [DecidableEq K] {g : Nat} {enc : K → Value} {f : K → Option Value}, MapF w g enc f → MapF (w'.setCell ⟨cb, 0, none⟩ ov') g enc f := fun hm =>
    (hm.upd hu (fun e => h1.ne_mapF hm e)).upd hs (fun e => cells_ne_map hcb (hm.upd hu (fun e => h1.ne_mapF hm e)) e.symm)
  refine ⟨⟨hcb2, map h.ch.hc, map h.ch.ht⟩, map h.hh, ?_, ?_, ?_, h.gs, h.ne⟩
  · refine (OvT.snoc h1 h2 h3 hv hown hu).upd hs (fun g cs t fr e hb => ?_)
    subst e
    rw [hcb] at hb
    injection hb with hb
    injection hb with _ ht
    subst ht
    exact ⟨by decide, by decide⟩
  · have hd' := (hu.block _ (ltOf h.hd) (h1.ne_cells h.hd (by decide))).trans h.hd
    exact (hs.block _ (ltOf hd') (by have := h.gs; omega)).trans hd'
  · exact (h.bel.trans (hu.toLow h.size (fun g hg => (h1.lt g hg).1))).setCell (by have := h.gs; simp; omega) _

theorem Upd.putObj {a b : World} {F : Nat → Prop} (h : Upd a b F) (l : Nat) (o : Obj) (hl : F l ∨ a.heap.size ≤ l) : Upd a (b.putObj l o) F :=
  ⟨h.os, h.tape, h.output, by rw [World.putObj_size]; exact h.size, fun k hk hf => (World.putObj_heap_other (fun e => by subst e; rcases hl with h1 | h1; exact hf h1; omega)).trans (h.block k hk hf)⟩

theorem setF_none {K : Type} (p : K → Bool) (x : K) : setF p x = none ↔ p x = false := by unfold setF; cases p x <;> simp
theorem start_none (l : List En) : (∀ x, setF (start l).1 x = none) ↔ (l.any fun x => isGoal x.role) = false := by
  simp only [setF_none, List.any_eq_false]
  have hd : ∀ i, (start l).1 i = (l[i]?.map fun x => isGoal x.role).getD false := fun i => rfl
  constructor
  · intro h x hx hg
    obtain ⟨i, hi, he⟩ := List.getElem_of_mem hx
    have := h i
    rw [hd, List.getElem?_eq_getElem hi, he] at this
    simp [hg] at this
  · intro h i
    rw [hd]
    by_cases hi : i < l.length
    · rw [List.getElem?_eq_getElem hi]
      simpa using h _ (List.getElem_mem hi)
    · rw [List.getElem?_eq_none (by omega)]
      rfl
theorem start_snoc1 (m : List En) (x : En) (i : Nat) : (start (m ++ [x])).1 i = ((isGoal x.role && decide (i = m.length)) || (start m).1 i) := by
  unfold start
  simp only []
  by_cases h : i < m.length
  · rw [List.getElem?_append_left h]
    have : i ≠ m.length := by omega
    simp [this]
  · by_cases h2 : i = m.length
    · subst h2
      simp
    · have h3 : m.length < i := by omega
      rw [List.getElem?_eq_none (by simp; omega), List.getElem?_eq_none (by omega)]
      simp [h2]
theorem start_snoc2 (m : List En) (x : En) (y : Sy) : (start (m ++ [x])).2 y = ((isGoal x.role && hasSy (own x) y) || (start m).2 y) := by
  unfold start
  simp [Bool.or_comm]

set_option maxRecDepth 100000 in
set_option maxHeartbeats 4000000 in
theorem progChoose_any (l : List En) (tol dep : Int) (v : Value) (B : Nat) (w : World) (hr : Rd w B (.sl 7 (l.map encEn)) v) (hB : B ≤ w.heap.size) (hf : Few l) :
    Calls Try.prog 13 #[v, .int .i64 tol, .int .i64 dep] w (ChooseRes w l tol dep) := by
  obtain ⟨A, c, rfl, hc, hn, hm⟩ := hr.sl_form
  rw [List.length_map] at hc hn hr ⊢
  have Hr := Lib.hid hr
  have Hfw := Lib.hid hf
  have hl3 := hf.1
  clear hr hf
  unfold maxLen at hm
  have hmm := @run_makeMap Try.prog
  refine (callsIn_wide (n := 5)).1 (callsIn_of_wp_marks Try.func13 rfl trivial (wpIn_wide.2 ?_))
  simp only [Try.ntmps13, List.size_toArray, List.length_cons, List.length_nil, Nat.reduceAdd, Nat.reduceSub, Array.replicate_succ, Array.replicate_zero, List.push_toArray, List.append_toArray, List.nil_append, List.cons_append]
  have hcb : (w.alloc (.cells #[.int .i64 dep] 3)).cell? ⟨w.heap.size, 0, none⟩ = some (.int .i64 dep) := by
    rw [cell_of_row _ _ 0 _ _ _ (heap_alloc_new w _)]; rfl
  by_cases hok : argsOk tol dep = true
  · have hg : 0 ≤ tol ∧ tol ≤ 1000 ∧ (tol = 0 ∨ 10 ≤ tol) ∧ 0 ≤ dep := by
      unfold argsOk at hok
      simp only [Bool.and_eq_true, Bool.or_eq_true, decide_eq_true_eq] at hok
      omega
    obtain ⟨t, rfl⟩ : ∃ t : Nat, tol = t := ⟨tol.toNat, by omega⟩
    obtain ⟨d, rfl⟩ : ∃ d : Nat, dep = d := ⟨dep.toNat, by omega⟩
    obtain ⟨hg1, hg2, hg3, hg4⟩ := hg
    have h01 : (if t = 0 then (0 : Int) < t else (10 : Int) ≤ t) ∨ t = 0 := by by_cases h : t = 0; exact .inr h; exact .inl (by rw [if_neg h]; omega)
    clear h01
    have hpk : ChooseRes w l t d = fun e w' => ∃ v, e = .returned (.tuple #[v, .int .i64 0]) ∧ Own w' w.heap.size 3 1 v ((picked l t d).map nvs) ∧ Below w.heap.size w w' := by
      funext e w'
      unfold ChooseRes errno answer
      rw [if_pos hok, if_pos hok]
      rfl
    rw [hpk]
    clear hpk hok
    go_upto_region 1 with fail
    go_cut [37] from 140 (fun b w' => b = .bool false ∧ w' = w.alloc (.cells #[.int .i64 (d : Int)] 3))
    · by_cases h0 : t = 0
      · go_wp2_with fail
        go_meet
        exact ⟨rfl, rfl⟩
      · have h1 : 10 ≤ t := by omega
        go_wp2_with fail
        go_meet
        exact ⟨by simp; omega, rfl⟩
    obtain ⟨rfl, rfl⟩ := hcut
    go_wp2_with (go_at_call 10
                 refine (progCommon_any l _ B _ (Hr.out.low (below_box w _) hB) (by simp; omega) Hfw.out).mono ?_
                 rintro e w1 ⟨vs, vn, rfl, hos, hon, hb1⟩
                 obtain ⟨As, cs, hvs, hcs, hms⟩ := hos.form
                 obtain ⟨An, cn, hvn, hcn, hmn⟩ := hon.form
                 rw [List.length_map] at hvs hcs hvn hcn
                 subst hvs
                 subst hvn)
    obtain ⟨S, hS⟩ : ∃ S, allSy l = S := ⟨_, rfl⟩
    have hcm : commons l = S.map (common l) := by rw [← hS]; rfl
    have hcl : (commons l).length = S.length := by rw [← hS]; simp [commons]
    have hsl : S.length ≤ 300 * 3000 := by
      rw [← hS]
      exact Nat.le_trans (allSy_len (few_nodes Hfw.out)) (Nat.mul_le_mul_right _ hl3)
    rw [hcl] at hcn hon
    rw [hS] at hos hcs
    try rw [hS, hcl]
    have hmk : ∀ W, W = (((w1.alloc (Obj.map #[] 0)).alloc (Obj.map #[] 0)).alloc (Obj.map #[] 0)).alloc (Obj.cells #[Value.slice none 0 0, Value.map (some w1.heap.size), Value.map (some (w1.heap.size + 1)), Value.map (some (w1.heap.size + 1 + 1)), Value.int IntKind.i64 t] 64) →
        MkSt w W d (w1.heap.size + 1 + 1 + 1) w1.heap.size (w1.heap.size + 1) (w1.heap.size + 1 + 1) (.slice none 0 0) t (fun _ => none) (fun _ => false, fun _ => false) [] ∧
        Own W w.heap.size 31 3 (.slice As S.length cs) (S.map svs) ∧ Own W w.heap.size 3 1 (.slice An S.length cn) ((S.map (common l)).map nvs) := by
      rw [← hcm]
      rintro W rfl
      have hx := hb1.size
      simp only [alloc_size] at hx
      have hB4 : Below w1.heap.size w1 ((((w1.alloc (Obj.map #[] 0)).alloc (Obj.map #[] 0)).alloc (Obj.map #[] 0)).alloc (Obj.cells #[Value.slice none 0 0, Value.map (some w1.heap.size), Value.map (some (w1.heap.size + 1)), Value.map (some (w1.heap.size + 1 + 1)), Value.int IntKind.i64 t] 64)) :=
        ((((Below.refl _ _).alloc (Nat.le_refl _) _).alloc (by simp) _).alloc (by simp; omega) _).alloc (by simp; omega) _
      have hmt : ∀ {K : Type} [DecidableEq K] {enc : K → Value} {f : K → Option Value} {g : Nat} {W : World}, W.heap[g]? = some (.map #[] 0) → (∀ x, f x = none) → MapF W g enc f := fun hg hf => ⟨#[], 0, [], hg, rfl, fun x => by rw [hf]; rfl⟩
      refine ⟨⟨⟨by simp only [alloc_get, alloc_size]; repeat (first | rw [if_pos trivial] | rw [if_neg (by omega)]), hmt (by simp only [alloc_get, alloc_size]; repeat (first | rw [if_pos trivial] | rw [if_neg (by omega)])) (fun _ => rfl), hmt (by simp only [alloc_get, alloc_size]; repeat (first | rw [if_pos trivial] | rw [if_neg (by omega)])) (fun _ => rfl)⟩,
        hmt (by simp only [alloc_get, alloc_size]; repeat (first | rw [if_pos trivial] | rw [if_neg (by omega)])) (fun _ => rfl), OvT.nil _ _, ?_, ?_, by omega, by omega⟩, (hos.base_le (base' := w.heap.size) (by simp)).low hB4, (hon.base_le (base' := w.heap.size) (by simp)).low hB4⟩
      · exact (hB4.block _ (by omega)).trans ((hb1.block _ (by simp)).trans (heap_alloc_new w _))
      · have hbw : Below w.heap.size (w.alloc (.cells #[.int .i64 (d : Int)] 3)) w1 := hb1.mono (by simp)
        exact ((below_box w _).trans hbw).trans (hB4.mono (by omega))
    have hmk := hmk _ rfl
    generalize (((w1.alloc (Obj.map #[] 0)).alloc (Obj.map #[] 0)).alloc (Obj.map #[] 0)).alloc (Obj.cells #[Value.slice none 0 0, Value.map (some w1.heap.size), Value.map (some (w1.heap.size + 1)), Value.map (some (w1.heap.size + 1 + 1)), Value.int IntKind.i64 t] 64) = wa at hmk ⊢
    generalize w1.heap.size + 1 + 1 + 1 = cb at hmk ⊢
    generalize w1.heap.size + 1 + 1 = gh at hmk ⊢
    generalize w1.heap.size + 1 = gt at hmk ⊢
    generalize w1.heap.size = gc at hmk ⊢
    obtain ⟨hmk, hos1, hon1⟩ := hmk
    clear hos hon hb1
    have Hmk := Lib.hid hmk
    have Hos := Lib.hid hos1
    have Hon := Lib.hid hon1
    clear hmk hos1 hon1
    have HS := Lib.hid hS
    unfold maxLen at hms hmn
    clear hS hcb
    go_loopw [51] (fun i wr => ∃ k : Nat, k ≤ S.length ∧ i = .int .i64 k ∧ MkSt w wr d cb gc gt gh (.slice none 0 0) t (fun s => if hasSy (S.take k) s then some (.int .i64 (common l s)) else none) (fun _ => false, fun _ => false) [] ∧
      Own wr w.heap.size 31 3 (.slice As S.length cs) (S.map svs) ∧ Own wr w.heap.size 3 1 (.slice An S.length cn) ((S.map (common l)).map nvs)) (fun i _ => S.length - (intOf i).toNat)
    case atStart => exact ⟨0, Nat.zero_le _, rfl, by simpa [hasSy] using Hmk.out, Hos.out, Hon.out⟩
    case round =>
      clear Hmk Hos Hon
      obtain ⟨k, hk, rfl, hmk, hos, hon⟩ := hrel
      obtain ⟨e1, e2, e3, e4, e0⟩ := box5 hmk.ch.hb
      have hlcb := ltOf hmk.ch.hb
      clear e0 e2 e3 e4
      have Hmk := Lib.hid hmk
      have Hos := Lib.hid hos
      have Hon := Lib.hid hon
      clear hmk hos hon
      by_cases hlt : k < S.length
      · obtain ⟨gs, rfl, hgs1, hgs2, cs0, _⟩ := Own.row_at (k := k) Hos.out (by rw [List.length_map]; exact hlt) (by omega)
        obtain ⟨gn, rfl, hgn1, hgn2, cn0, _⟩ := Own.row_at (k := k) Hon.out (by rw [List.length_map, List.length_map]; exact hlt) (by omega)
        have c0 := cs0 0 (by omega)
        have c1 := cs0 1 (by omega)
        have c2 := cs0 2 (by omega)
        have cn := cn0 0 (by omega)
        clear cs0 cn0
        simp only [List.getElem_map, svs, nvs, List.getElem_cons_zero, List.getElem_cons_succ, Nat.mul_one, Nat.add_zero] at c0 c1 c2 cn
        go_wp2_with fail
        have hwd : ∀ wd, wd = wr.alloc (Obj.cells #[Value.string S[k].fst, Value.int IntKind.i64 ↑S[k].snd.fst, Value.bool S[k].snd.snd] 31) →
            wd.cell? ⟨cb, 1, none⟩ = some (.map (some gc)) ∧ wd.cell? ⟨gn, k, none⟩ = some (.int .i64 (common l S[k])) ∧ (∀ o, wd.cell? ⟨wr.heap.size, o, none⟩ = #[Value.string S[k].fst, Value.int IntKind.i64 ↑S[k].snd.fst, Value.bool S[k].snd.snd][o]?) ∧
            wd.heap.size = wr.heap.size + 1 ∧ Below wr.heap.size wr wd := by
          rintro wd rfl
          have hbw := below_box wr (Obj.cells #[Value.string S[k].fst, Value.int IntKind.i64 ↑S[k].snd.fst, Value.bool S[k].snd.snd] 31)
          have hbx := heap_alloc_new wr (Obj.cells #[Value.string S[k].fst, Value.int IntKind.i64 ↑S[k].snd.fst, Value.bool S[k].snd.snd] 31)
          have key := fun o => cell_of_row _ wr.heap.size o _ _ _ hbx
          exact ⟨(hbw.cell hlcb).trans e1, (hbw.cell hgn2).trans cn, key, by simp, hbw⟩
        have hwd := hwd _ rfl
        generalize wr.alloc (Obj.cells #[Value.string S[k].fst, Value.int IntKind.i64 ↑S[k].snd.fst, Value.bool S[k].snd.snd] 31) = wb at hwd ⊢
        obtain ⟨f1, f2, f3, hzd, hbd⟩ := hwd
        go_still_tail 9, (by kernel_rfl)
        change wpList _ _ _ _ _ wb.drew
        obtain ⟨wd, hwd⟩ : ∃ wd, wd = wb.drew := ⟨_, rfl⟩
        rw [← hwd]
        have hbd : Below wr.heap.size wr wd := by rw [hwd]; exact ⟨hbd.os, hbd.tape, hbd.output, hbd.size, hbd.block⟩
        have Hbd := Lib.hid hbd
        clear e1 c0 c1 c2 cn hbd hwd f1 f2 f3
        go_wp2_with (at_mapUpdate
                     refine wpList_mapStore rfl (.tmp 59) (.tmp 60) (.tmp 64) rfl symK Try.underlying52 rfl S[k] rfl (.int .i64 (common l S[k])) rfl (by exact (Hmk.out.low Hbd.out).ch.hc) ?_
                     intro w5 hm5 hu5)
        go_roundw
        case rel =>
          refine ⟨k + 1, by omega, by go_num, ((Hmk.out.low Hbd.out).fc_set hm5 hu5).cong (fun s => ?_), (Hos.out.low Hbd.out).upd hu5 (fun i hi e => (Hos.out.low Hbd.out).ne_mapF (Hmk.out.low Hbd.out).ch.hc (by rw [hi, e])), (Hon.out.low Hbd.out).upd hu5 (fun i hi e => (Hon.out.low Hbd.out).ne_mapF (Hmk.out.low Hbd.out).ch.hc (by rw [hi, e]))⟩
          simp only [hasSy_take_succ hlt]
          by_cases h : s = S[k]
          · subst h; simp
          · simp [h]
        case measure => simp [intOf]; omega
      · have hkk : k = S.length := by omega
        subst hkk
        have hmk2 := Hmk.out.cong (fc' := fun s => if hasSy S s then some (.int .i64 (common l s)) else none) (fun s => by rw [List.take_length])
        have Hmk2 := Lib.hid hmk2
        clear hmk2 Hmk Hos Hon e1 hlcb
        go_wp2_with fail
        obtain ⟨wo, rfl⟩ : ∃ wo : World, wo = wr := ⟨_, rfl⟩
        go_loopw [68] (fun i w' => ∃ k : Nat, k ≤ l.length ∧ i = .int .i64 k ∧ ∃ ov, MkSt w w' d cb gc gt gh ov t (fun s => if hasSy S s then some (.int .i64 (common l s)) else none) (start (l.take k)) ((l.take k).map own)) (fun i _ => l.length - (intOf i).toNat)
        case atStart => exact ⟨0, Nat.zero_le _, rfl, _, Hmk2.out⟩
        case round =>
          clear Hmk2
          obtain ⟨k, hk, rfl, ov, hmk⟩ := hrel
          have hz := hmk.size
          have Hmk := Lib.hid hmk
          by_cases hlt : k < l.length
          · obtain ⟨ab, off, o, vv, tt, aa, rfl, hb, c0, c1, c2, c3, c4, c5, c6, hrd⟩ := (Hr.out.low Hmk.out.bel hB).en_at hlt
            obtain ⟨A1, A2, A3, n1, n2, n3, cc1, cc2, cc3, rfl, rfl, rfl⟩ := hrd.forms
            have hnf := few_nodes Hfw.out l[k] (List.getElem_mem hlt)
            have Hrd := Lib.hid hrd
            have hlo := own_len l[k]
            obtain ⟨O, hO⟩ : ∃ O, own l[k] = O := ⟨_, rfl⟩
            rw [hO] at hlo
            have HO := Lib.hid hO
            obtain ⟨e1, e2, e3, e4, e0⟩ := box5 hmk.ch.hb
            have hlcb := ltOf hmk.ch.hb
            clear hrd hO e1 e2 e3 e4 hmk
            go_upto_region 13 with fail
            go_upto_region 14 with (go_at_call 21
                                    refine (progSymbols_any _ _ _ _ _ _ _ (Hrd.out.low (below_box wr _) (by omega)) (by simp; omega) (by omega)).mono ?_
                                    rintro e w1 ⟨vo, rfl, hown1, hb1⟩
                                    rw [show symsFm [] l[k].form = O from HO.out] at hown1
                                    obtain ⟨Ao, co, hvo, hco, hmo⟩ := hown1.form
                                    rw [List.length_map] at hvo hco
                                    subst hvo
                                    have Hown1 := Lib.hid hown1
                                    have Hb1 := Lib.hid hb1
                                    clear hown1 hb1 c0 c1 c2 c3 c4 c5 c6 e0)
            obtain ⟨_, hb2, hz1⟩ := box_after Hb1.out
            have hbx : w1.heap[wr.heap.size]? = some (.cells #[.bool l[k].cnf, .string l[k].name, .string l[k].role, .int .i64 o, .slice A1 n1 cc1, .slice A2 n2 cc2, .slice A3 n3 cc3] 43 (0, 0)) := (Hb1.out.block _ (by simp)).trans (heap_alloc_new wr _)
            have hOw : Own w1 w.heap.size 31 3 (.slice Ao O.length co) (O.map svs) := Hown1.out.base_le (by simp; omega)
            have hmk1 := Hmk.out.low hb2
            obtain ⟨vals, hv1, hv2, hv3⟩ := hmk1.tb
            rw [List.length_map, List.length_take, Nat.min_eq_left hk] at hv2
            have e0 := (box5 hmk1.ch.hb).2.2.2.2
            have hlcb1 := ltOf hmk1.ch.hb
            have Hmk1 := Lib.hid hmk1
            have HOw := Lib.hid hOw
            have Hbx := Lib.hid hbx
            have Hv1 := Lib.hid hv1
            have Hv3 := Lib.hid hv3
            clear hmk1 hOw hbx hv1 hv3 hb2
            go_upto_region 15 with (at_builtin
                                    refine wpList_push _ rfl (.tmp 80) (.tmp 82) _ rfl symsT (base := w.heap.size) (v := ov) (rows := vals.map fun v => [v]) rfl ?a1 (g := w1.heap.size) (cells := #[.slice Ao O.length co]) rfl (heap_alloc_new w1 _) rfl ?a2 ?a3 ?a4 ?a5 ?_
                                    case a1 => exact Hv1.out.alloc _
                                    case a2 => simp [Value.oneCell']
                                    case a3 => rw [List.length_map]; omega
                                    case a4 => rw [List.length_map]; unfold maxLen; omega
                                    case a5 => simp; omega
                                    intro v4 w4 hown4 hup4 _
                                    obtain ⟨A4, n4, c4, rfl⟩ : ∃ A n c, v4 = .slice A n c := by obtain ⟨A, c, h, _⟩ := hown4.form; exact ⟨_, _, _, h⟩
                                    have hz4 := hup4.size
                                    simp only [alloc_size] at hz4
                                    have hmk1' := Hmk1.out.alloc (.cells #[.slice Ao O.length co] 25)
                                    have hv1' := Hv1.out.alloc (.cells #[.slice Ao O.length co] 25)
                                    have hcb4 := (hup4.block cb (ltOf hmk1'.ch.hb) (hv1'.ne_cells hmk1'.ch.hb (by decide))).trans hmk1'.ch.hb
                                    have q0 := (box5 hcb4).2.2.2.2
                                    have q1 := frozen_of_row w4 cb 0 _ _ hcb4
                                    have Hown4 := Lib.hid hown4
                                    have Hup4 := Lib.hid hup4
                                    clear hown4 hup4 hcb4 e0 hmk1' hv1')
            have hu15 : Upd w1 (w4.setCell ⟨cb, 0, none⟩ (.slice A4 n4 c4)) (fun i => ov.ownBlock = some i ∨ i = cb) := (((Upd.refl w1 _).alloc _).trans Hup4.out (fun i hi => .inl (.inl hi))).setCell ⟨cb, 0, none⟩ (.slice A4 n4 c4) (.inl (.inr rfl))
            have hmk5 := (Hmk1.out.alloc (.cells #[.slice Ao O.length co] 25)).push (o := O) (Hv1.out.alloc _) (by rw [List.length_map, List.length_take, Nat.min_eq_left hk]; exact hv2) (fun j h h' => (Hv3.out j h h').alloc _) (HOw.out.alloc _) Hown4.out Hup4.out
            have hbx5 := (hu15.block _ (ltOf Hbx.out) (by rintro (e | e); exact (Hv1.out.ne_cells Hbx.out (by decide)) e; omega)).trans Hbx.out
            have hOw5 := HOw.out.upd hu15 (fun i hi e => by rcases e with e | e; exact Hv1.out.ne_own HOw.out (by decide) i e hi; exact own_block_ne HOw.out Hmk1.out.ch.hb (by decide) i hi e)
            clear q0 q1 hu15 Hown4 Hup4 Hbx Hv1 Hv3 HOw Hmk1 Hb1 Hown1 Hmk
            generalize w4.setCell ⟨cb, 0, none⟩ (.slice A4 n4 c4) = w5 at hmk5 hbx5 hOw5 ⊢
            have eb := fun o => cell_of_row w5 wr.heap.size o _ _ _ hbx5
            have Hmk5 := Lib.hid hmk5
            have HOw5 := Lib.hid hOw5
            clear hmk5 hbx5 hOw5
            have hts : (l.take (k + 1)).map own = (l.take k).map own ++ [O] := by rw [List.take_succ_eq_append_getElem hlt, List.map_append]; show _ ++ [own l[k]] = _; rw [HO.out]
            have Hts := Lib.hid hts
            clear hts
            by_cases hg : isGoal l[k].role = true
            · have hst : start (l.take (k + 1)) = (fun i => decide (i = k) || (start (l.take k)).1 i, fun y => hasSy O y || (start (l.take k)).2 y) := by
                rw [List.take_succ_eq_append_getElem hlt]
                refine Prod.ext (funext fun i => ?_) (funext fun y => ?_)
                · rw [start_snoc1, hg, List.length_take, Nat.min_eq_left hk, Bool.true_and]
                · rw [start_snoc2, hg, HO.out, Bool.true_and]
              have Hst := Lib.hid hst
              clear hst
              go_wp2_with (first
                | (go_at_call 22
                   refine (goal_any _ _ _ _ _ _ _ _).mono ?_
                   rintro e w6 ⟨rfl, hb6⟩
                   obtain ⟨_, f2, f3, _, _⟩ := box5 (Hmk5.out.low hb6).ch.hb
                   have hl6 := ltOf (Hmk5.out.low hb6).ch.hb
                   have Hb6 := Lib.hid hb6
                   clear hb6)
                | (at_mapUpdate
                   refine wpList_mapStore rfl (.tmp 91) (.tmp 92) (.const (.bool true)) rfl intK Try.underlying61 rfl k rfl (.bool true) rfl (by exact (Hmk5.out.low Hb6.out).hh) ?_
                   intro w7 hm7 hu7
                   have hmk7 := (Hmk5.out.low Hb6.out).fh_set (p := fun i => decide (i = k) || (start (l.take k)).1 i) (hm7.congr (fun x => by unfold setF; by_cases h : x = k <;> simp [h])) hu7
                   have hOw7 := (HOw5.out.low Hb6.out).upd hu7 (fun i hi e => (HOw5.out.low Hb6.out).ne_mapF (Hmk5.out.low Hb6.out).hh (by rw [hi, e]))
                   obtain ⟨_, g2, _, _, _⟩ := box5 hmk7.ch.hb
                   have hl7 := ltOf hmk7.ch.hb
                   have Hmk7 := Lib.hid hmk7
                   have HOw7 := Lib.hid hOw7
                   clear hm7 hu7 hmk7 hOw7 f2 f3)
                | (go_at_call 25
                   refine (addSy_any _ O gt _ w7.heap.size _ (own_rd_sy HOw7.out (by omega)) Hmk7.out.ch.ht (Nat.le_refl _)).mono ?_
                   rintro e w8 ⟨rfl, hm8, hu8⟩
                   have Hm8 := Lib.hid hm8
                   have Hu8 := Lib.hid hu8
                   clear hm8 hu8))
              go_roundw
              case rel =>
                refine ⟨k + 1, by omega, by go_num, .slice A4 n4 c4, ?_⟩
                rw [Hts.out, Hst.out]
                exact Hmk7.out.ft_set (Hm8.out.congr (fun x => (setF_addSy _ _ _).symm)) Hu8.out
              case measure => simp [intOf]; omega
            · have hst : start (l.take (k + 1)) = start (l.take k) := by
                rw [List.take_succ_eq_append_getElem hlt]
                refine Prod.ext (funext fun i => ?_) (funext fun y => ?_)
                · rw [start_snoc1]; simp [hg]
                · rw [start_snoc2]; simp [hg]
              have Hst := Lib.hid hst
              clear hst
              go_wp2_with (go_at_call 22
                           refine (goal_any _ _ _ _ _ _ _ _).mono ?_
                           rintro e w6 ⟨rfl, hb6⟩
                           have Hb6 := Lib.hid hb6
                           clear hb6)
              go_roundw
              case rel =>
                refine ⟨k + 1, by omega, by go_num, .slice A4 n4 c4, ?_⟩
                rw [Hts.out, Hst.out]
                exact Hmk5.out.low Hb6.out
              case measure => simp [intOf]; omega
          · have hkk : k = l.length := by omega
            subst hkk
            rw [List.take_length] at hmk
            have Hmk := Lib.hid hmk
            have hu61 : Try.prog.underlying 61 = some (.map (Try.prog.mapKeyOf 61) (Try.prog.mapElemOf 61)) := by kernel_rfl
            obtain ⟨es, ck, hes, hez⟩ := hmk.hh.len
            have hgoal : (∀ x, setF (start l).1 x = none) ↔ (l.any fun x => isGoal x.role) = false := start_none l
            rw [hgoal] at hez
            obtain ⟨e1, e2, e3, e4, e0⟩ := box5 hmk.ch.hb
            have hlcb := ltOf hmk.ch.hb
            have hlen := fun ty => run_len_map (P := Try.prog) (w := wr) (t := 61) (ty := ty) (r := gh) (es := es) (clock := ck) hu61 hes
            clear hgoal hmk e1 e2 e4 e0 hu61 hes
            by_cases h0 : t = 0
            · subst h0
              have hpk : picked l 0 d = List.range l.length := by simp [picked, allIn]
              have Hpk := Lib.hid hpk
              clear hpk hez hlen
              go_wp2_with fail
              go_loopw [18, 19, 122] (fun u _ i w' => ∃ k : Nat, k ≤ l.length ∧ i = .int .i64 k ∧ Own w' w.heap.size 3 1 u ((List.range k).map nvs) ∧ Below w.heap.size w w') (fun _ _ i _ => l.length - (intOf i).toNat)
              case atStart => exact ⟨0, Nat.zero_le _, rfl, Own.nil _ _ _ _, Hmk.out.bel⟩
              case round =>
                clear Hmk
                obtain ⟨k, hk, rfl, hown, hbel⟩ := hrel
                have hz3 := hbel.size
                have Hown := Lib.hid hown
                have Hbel := Lib.hid hbel
                clear hown hbel
                by_cases hlt : k < l.length
                · go_wp2_with (at_builtin
                               refine wpList_push _ rfl (.tmp 134) (.tmp 136) _ rfl intT (base := w.heap.size) (rows := (List.range k).map nvs) rfl (by exact Hown.out.alloc _) (g := wr.heap.size) (cells := #[.int .i64 k]) rfl (heap_alloc_new wr _) rfl (by simp [Value.oneCell']) (by rw [List.length_map, List.length_range]; omega) (by rw [List.length_map, List.length_range]; unfold maxLen; omega) (by simp; omega) ?_
                               intro v4 w4 hown4 hup4 _
                               have Hown4 := Lib.hid hown4
                               have Hup4 := Lib.hid hup4
                               clear hown4 hup4)
                  go_roundw
                  case rel =>
                    first
                      | refine ⟨_, _, _, ⟨k + 1, by omega, by go_num, by rw [List.range_succ, List.map_append]; exact Hown4.out, ?_⟩, rfl, rfl, rfl⟩
                      | refine ⟨k + 1, by omega, by go_num, by rw [List.range_succ, List.map_append]; exact Hown4.out, ?_⟩
                    exact (Hbel.out.trans ((below_box wr _).mono (by omega))).trans (Hup4.out.toLow (by simp; omega) (fun i hi => ((Hown.out.alloc (.cells #[.int .i64 (k : Int)] 3)).lt i hi).1))
                  case measure => simp [intOf]; omega
                · have hkk : k = l.length := by omega
                  subst hkk
                  go_wp2_with fail
                  refine endM_nil (results_tmp2 rfl _ _ _) rfl ⟨_, rfl, ?_, Hbel.out⟩
                  rw [Hpk.out]
                  exact Hown.out
            · have ht0 : ((t : Int) == 0) = false := by simp; exact h0
              by_cases hgo : (l.any fun x => isGoal x.role) = false
              · have hpk : picked l t d = List.range l.length := by simp [picked, allIn, hgo]
                have hz0 : ((es.size : Int) == 0) = true := by rw [hez.2 hgo]; rfl
                have Hpk := Lib.hid hpk
                clear hpk hez hgo
                go_wp2_with fail
                go_loopw [18, 19, 122] (fun u _ i w' => ∃ k : Nat, k ≤ l.length ∧ i = .int .i64 k ∧ Own w' w.heap.size 3 1 u ((List.range k).map nvs) ∧ Below w.heap.size w w') (fun _ _ i _ => l.length - (intOf i).toNat)
                case atStart => exact ⟨0, Nat.zero_le _, rfl, Own.nil _ _ _ _, Hmk.out.bel⟩
                case round =>
                  clear Hmk
                  obtain ⟨k, hk, rfl, hown, hbel⟩ := hrel
                  have hz3 := hbel.size
                  have Hown := Lib.hid hown
                  have Hbel := Lib.hid hbel
                  clear hown hbel
                  by_cases hlt : k < l.length
                  · go_wp2_with (at_builtin
                                 refine wpList_push _ rfl (.tmp 134) (.tmp 136) _ rfl intT (base := w.heap.size) (rows := (List.range k).map nvs) rfl (by exact Hown.out.alloc _) (g := wr.heap.size) (cells := #[.int .i64 k]) rfl (heap_alloc_new wr _) rfl (by simp [Value.oneCell']) (by rw [List.length_map, List.length_range]; omega) (by rw [List.length_map, List.length_range]; unfold maxLen; omega) (by simp; omega) ?_
                                 intro v4 w4 hown4 hup4 _
                                 have Hown4 := Lib.hid hown4
                                 have Hup4 := Lib.hid hup4
                                 clear hown4 hup4)
                    go_roundw
                    case rel =>
                      first
                        | refine ⟨_, _, _, ⟨k + 1, by omega, by go_num, by rw [List.range_succ, List.map_append]; exact Hown4.out, ?_⟩, rfl, rfl, rfl⟩
                        | refine ⟨k + 1, by omega, by go_num, by rw [List.range_succ, List.map_append]; exact Hown4.out, ?_⟩
                      exact (Hbel.out.trans ((below_box wr _).mono (by omega))).trans (Hup4.out.toLow (by simp; omega) (fun i hi => ((Hown.out.alloc (.cells #[.int .i64 (k : Int)] 3)).lt i hi).1))
                    case measure => simp [intOf]; omega
                  · have hkk : k = l.length := by omega
                    subst hkk
                    go_wp2_with fail
                    refine endM_nil (results_tmp2 rfl _ _ _) rfl ⟨_, rfl, ?_, Hbel.out⟩
                    rw [Hpk.out]
                    exact Hown.out
              · have hz0 : ((es.size : Int) == 0) = false := by
                  have h1 : es.size ≠ 0 := fun h => hgo (hez.1 h)
                  rw [beq_eq_false_iff_ne]
                  omega
                have hpk : picked l t d = (List.range l.length).filter fun i => (final l t d).1 i := by
                  unfold picked allIn
                  rw [(by simpa using hgo : (l.any fun x => isGoal x.role) = true)]
                  simp [h0]
                have Hpk := Lib.hid hpk
                clear hez hgo hpk
                go_wp2_with fail
                refine wpIn_wide.1 (wpIn_rangeFunc (F := Fence.wide) (n := 5) ?_)
                intro fn _
                obtain ⟨W0, hW0⟩ : ∃ W0, wr.alloc (.cells #[.int .i64 0] 3) = W0 := ⟨_, rfl⟩
                rw [hW0]
                generalize hrec : ({ state := .ready, pending := none, fn := fn, tmps := _, params := #[114], assign := _, body := _, defers := W0.heap.size } : Loop) = rec0
                refine ⟨W0.heap.size + 1, [{ target := .collected W0.heap.size, args := #[] }], (W0.alloc (.deferred (some []))).alloc (.loop rec0), { target := .fn (.func 26) #[], args := #[.pointer (some ⟨cb, 0, none⟩), .func (.yield (W0.heap.size + 1)) #[] #[]] }, (W0.alloc (.deferred (some []))).alloc (.loop rec0), 26,
                  #[.pointer (some ⟨cb, 0, none⟩), .func (.yield (W0.heap.size + 1)) #[] #[]], (W0.alloc (.deferred (some []))).alloc (.loop rec0), ?_, ?_, ?_, ?_, ?_, ?_⟩
                · rw [← hrec]; exact run_enterLoop_outer _ _ _ _ _
                · simp [resolve, go_sem]
                · intro f' hf'; trivial
                · simp [invoke, go_sem]
                · intro _; omega
                have hsz0 : W0.heap.size = wr.heap.size + 1 := by rw [← hW0]; simp
                have Hsz0 := Lib.hid hsz0
                have hz0 := ltOf Hmk.out.hd
                have Hzz := Lib.hid hz0
                clear hz0
                clear hsz0
                have hY : YieldOk (W0.heap.size + 1) wr.heap.size w.heap.size d rec0 { rec0 with state := .done, pending := some (.exit 4) } := by
                  clear hW0 hz
                  have r1 := congrArg Loop.tmps hrec
                  have r2 := congrArg Loop.params hrec
                  have r3 := congrArg Loop.assign hrec
                  have r4 := congrArg Loop.body hrec
                  have r5 : rec0.state = .ready := by rw [← hrec]
                  have r6 : { { rec0 with state := .busy } with state := .ready, pending := none } = rec0 := by rw [← hrec]
                  have R6 := Lib.hid r6
                  simp only [] at r1 r2 r3 r4
                  clear hrec r6
                  intro v r W hL hrb hdb hr
                  have hy := run_yield (P := Try.prog) (args := #[v]) hL (by rw [← r2]; rfl)
                  rw [← r1, ← r2, ← r3, ← r4] at hy
                  simp at hy
                  refine ⟨_, _, _, _, hy, roundIn_of_wpIn (F := Fence.wide) trivial ?_⟩
                  clear hy r1 r2 r3 r4
                  have hl := ltOf hL
                  have hbr := run_beginRound (P := Try.prog) hL r5
                  have hL2 := World.putObj_heap_same (w := W) (o := .loop { rec0 with state := .busy }) hl
                  have hrb2 := (World.putObj_heap_other (w := W) (r := W0.heap.size + 1) (o := .loop { rec0 with state := .busy }) (k := wr.heap.size) (by have := Hsz0.out; have := Hzz.out; omega)).trans hrb
                  have hdb2 := (World.putObj_heap_other (w := W) (r := W0.heap.size + 1) (o := .loop { rec0 with state := .busy }) (k := w.heap.size) (by have := Hsz0.out; have := Hzz.out; omega)).trans hdb
                  have hU2 : Upd W (W.putObj (W0.heap.size + 1) (.loop { rec0 with state := .busy })) (fun k => k = wr.heap.size ∨ k = W0.heap.size + 1) := (Upd.refl W _).putObj _ _ (.inl (.inr rfl))
                  generalize W.putObj (W0.heap.size + 1) (.loop { rec0 with state := .busy }) = W2 at hbr hL2 hrb2 hdb2 hU2
                  have c1 := cell_of_row _ _ 0 _ _ _ hrb2
                  have c2 := cell_of_row _ _ 0 _ _ _ hdb2
                  have c3 := frozen_of_row W2 wr.heap.size 0 _ _ hrb2
                  simp only [List.getElem?_toArray, List.getElem?_cons_zero] at c1 c2
                  have HL2 := Lib.hid hL2
                  have Hdb2 := Lib.hid hdb2
                  have HU2 := Lib.hid hU2
                  have Hrb2 := Lib.hid hrb2
                  clear hL hrb hdb hL2 hrb2 hdb2 hU2 hl r5
                  have hs3 : Upd W2 (W2.setCell ⟨wr.heap.size, 0, none⟩ (.int .i64 ((r : Int) + 1))) (fun k => k = wr.heap.size) := (Upd.refl W2 _).setCell _ _ (.inl rfl)
                  have hL3 := (hs3.block (W0.heap.size + 1) (ltOf HL2.out) (by have := Hsz0.out; have := Hzz.out; omega)).trans HL2.out
                  have hrb3 := heap_setCell_same W2 wr.heap.size 0 _ _ (.int .i64 ((r : Int) + 1)) Hrb2.out
                  have c4 := cell_of_row (W2.setCell ⟨wr.heap.size, 0, none⟩ (.int .i64 ((r : Int) + 1))) w.heap.size 0 _ _ _ ((hs3.block w.heap.size (ltOf Hdb2.out) (by have := Hsz0.out; have := Hzz.out; omega)).trans Hdb2.out)
                  simp only [List.getElem?_toArray, List.getElem?_cons_zero] at c4
                  have HL3 := Lib.hid hL3
                  have Hrb3 := Lib.hid hrb3
                  have Hs3 := Lib.hid hs3
                  clear hs3 hL3 hrb3
                  have hK3 := fun o => ((HU2.out.trans Hs3.out (fun i hi => .inl (.inl hi))).putObj (W0.heap.size + 1) o (.inl (.inr rfl)))
                  have hR3 := fun o => (World.putObj_heap_other (w := W2.setCell ⟨wr.heap.size, 0, none⟩ (.int .i64 ((r : Int) + 1))) (r := W0.heap.size + 1) (o := o) (k := wr.heap.size) (by have := Hsz0.out; have := Hzz.out; omega)).trans Hrb3.out
                  have HK3 := Lib.hid hK3
                  have HR3 := Lib.hid hR3
                  clear hK3 hR3
                  by_cases hd : r + 1 = d
                  · gi_wp2_with (rw [Oper.semAt_eq _ _ _ (fun c h => by cases h)]
                                 go_simp
                                 try go_bits)
                    exact ⟨_, _, run_endRound (some (.exit 4)) HL3.out, HK3.out _, (HR3.out _).trans (by rw [← hd]; simp), rfl, World.putObj_heap_same (ltOf HL3.out)⟩
                  · gi_wp2_with (rw [Oper.semAt_eq _ _ _ (fun c h => by cases h)]
                                 go_simp
                                 try go_bits)
                    exact ⟨_, _, run_endRound none HL3.out, HK3.out _, (HR3.out _).trans (by simp), rfl, (World.putObj_heap_same (ltOf HL3.out)).trans (congrArg (fun r => some (Obj.loop r)) R6.out)⟩
                have hsz0 := Hsz0.out
                have hzz := Hzz.out
                have hb1 : Below wr.heap.size wr ((W0.alloc (.deferred (some []))).alloc (.loop rec0)) := by
                  have := (((below_box wr (.cells #[.int .i64 0] 3)).alloc (by simp) (.deferred (some []))).alloc (by simp; omega) (.loop rec0))
                  rw [hW0] at this
                  exact this
                have Hb1 := Lib.hid hb1
                clear hb1
                refine callsIn_wide.2 ((rounds_any (ows l) (common l) t d cb gc gt gh wr.heap.size w.heap.size (W0.heap.size + 1) wr.heap.size ov (fun s => if hasSy S s then some (.int .i64 (common l s)) else none) rec0 { rec0 with state := .done, pending := some (.exit 4) } (start l) _ ?st ?s1 (Nat.le_refl _) ?s2 ?s3 ?s4 ?s5 ?s6 ?s7 ?s8 ?s9 ?s10 hY).mono ?_)
                case st =>
                  have Hl := Hmk.out.low Hb1.out
                  have hb2 : Below W0.heap.size W0 ((W0.alloc (.deferred (some []))).alloc (.loop rec0)) := (below_box W0 _).alloc (by simp) _
                  refine ⟨(Hmk.out.tb.rd (by rw [List.length_map]; omega) (fun o ho => ?_)).low Hb1.out (Nat.le_refl _), Hl.ch, Hl.hh, (hb2.block _ (by omega)).trans ?_, Hl.hd, ?_, Upd.refl _ _⟩
                  · obtain ⟨x, hx, rfl⟩ := List.mem_map.1 ho
                    have := own_len x
                    have := few_nodes Hfw.out x hx
                    omega
                  · rw [← hW0]; exact heap_alloc_new wr _
                  · have := heap_alloc_new (W0.alloc (.deferred (some []))) (.loop rec0)
                    rw [World.size_alloc] at this
                    exact this
                case s1 => exact Hb1.out.size
                case s2 => omega
                case s3 => omega
                case s4 => exact Hmk.out.ne.1
                case s5 => exact Hmk.out.ne.2.1
                case s6 => exact Hmk.out.ne.2.2
                case s7 =>
                  intro s
                  by_cases h : hasSy S s = true
                  · rw [if_pos h]; rfl
                  · rw [if_neg h, common_zero (by rw [HS.out]; exact fun hm => h ((hasSy_iff _ _).2 hm))]; rfl
                case s8 => exact fun s => Nat.le_trans (common_le l s) (by omega)
                case s9 => omega
                case s10 => unfold ows; rw [List.length_map]; omega
                clear hY
                rintro e W2 ⟨rfl, r, h⟩
                have hfin : rnds (common l) t (ows l) r (start l) = final l t d := final_of (by rcases h with ⟨_, a, b⟩ | ⟨_, a, b⟩; exact .inl ⟨a, b⟩; exact .inr ⟨a, b⟩)
                rw [hfin] at h
                have r5 : rec0.state = .ready := by rw [← hrec]
                have r6 : rec0.pending = none := by rw [← hrec]
                obtain ⟨rec, hst, hpend, hbusy⟩ : ∃ rec, RdsSt _ W2 wr.heap.size cb gc gt gh wr.heap.size w.heap.size (W0.heap.size + 1) d r ov t _ (ows l) (final l t d) rec ∧ (rec.pending = none ∨ rec.pending = some (.exit 4)) ∧ rec.state ≠ .busy := by
                  rcases h with ⟨h, _⟩ | ⟨h, _⟩
                  · exact ⟨_, h, .inl r6, by rw [r5]; decide⟩
                  · exact ⟨_, h, .inr rfl, by simp⟩
                clear h r5 r6 hfin hrec
                have hend := run_endLoop (P := Try.prog) hst.fl hbusy
                have hup3 := hst.fup.putObj (W0.heap.size + 1) (.loop { rec with state := .exhausted }) (.inl (.inr (.inr (.inr rfl))))
                have hm3 : MapF (W2.putObj (W0.heap.size + 1) (.loop { rec with state := .exhausted })) gh natV (setF (final l t d).1) := hst.fgh.upd ((Upd.refl W2 (fun k => k = W0.heap.size + 1)).putObj _ _ (.inl rfl)) (fun e => by have := Hmk.out.hh.lt; omega)
                have hcb3 := (World.putObj_heap_other (w := W2) (r := W0.heap.size + 1) (o := .loop { rec with state := .exhausted }) (k := cb) (by have := ltOf Hmk.out.ch.hb; omega)).trans hst.fch.hb
                generalize W2.putObj (W0.heap.size + 1) (.loop { rec with state := .exhausted }) = W3 at hend hup3 hm3 hcb3
                have hk1 : ((W0.alloc (.deferred (some []))).alloc (.loop rec0)).heap[W0.heap.size]? = some (.deferred (some [])) := ((below_box (W0.alloc (.deferred (some []))) _).block _ (by simp)).trans (heap_alloc_new W0 _)
                have hk3 := (hup3.block W0.heap.size (ltOf hk1) (by rintro (e | e | e | e); have := Hmk.out.ch.ht.lt; omega; have := Hmk.out.hh.lt; omega; omega; omega)).trans hk1
                have hbel3 : Below w.heap.size w W3 := (Hmk.out.bel.trans (Hb1.out.mono (by omega))).trans (hup3.toLow (Nat.le_trans (Nat.le_of_lt hzz) Hb1.out.size) (by rintro k (rfl | rfl | rfl | rfl); have := Hmk.out.gs; omega; have := Hmk.out.gs; omega; omega; omega))
                have Hend := Lib.hid hend
                have Hm3 := Lib.hid hm3
                have Hcb3 := Lib.hid hcb3
                have Hk3 := Lib.hid hk3
                have Hbel3 := Lib.hid hbel3
                have hD : w.heap.size ≤ W0.heap.size := by omega
                have HD := Lib.hid hD
                clear hD
                clear hst hbusy hend hup3 hm3 hcb3 hk1 hk3 hbel3 Hmk Hb1 hW0 Hsz0 Hzz hsz0 hzz
                generalize (final l t d).1 = pk at Hpk Hm3
                rcases hpend with hp | hp
                · refine ⟨none, W3, by rw [← hp]; exact Hend.out, ?_⟩
                  clear hp Hend
                  simp only []
                  gi_wp2
                  go_wp2_with fail
                  go_loopw [18, 19, 122] (fun u _ i w' => ∃ k : Nat, k ≤ l.length ∧ i = .int .i64 k ∧ Own w' W3.heap.size 3 1 u (((List.range k).filter pk).map nvs) ∧ Below W3.heap.size W3 w') (fun _ _ i _ => l.length - (intOf i).toNat)
                  case atStart => exact ⟨0, Nat.zero_le _, rfl, Own.nil _ _ _ _, Below.refl _ _⟩
                  case round =>
                    obtain ⟨k, hk, rfl, hown, hbel⟩ := hrel
                    have hz3 := hbel.size
                    have hlk := MapF.lookup (Hm3.out.low hbel) intK Try.underlying61 (zeroB _) k
                    rw [setF_get] at hlk
                    obtain ⟨e1, e2, e3, e4, e0⟩ := box5 ((hbel.block _ (ltOf Hcb3.out)).trans Hcb3.out)
                    have hlcb := Nat.lt_of_lt_of_le (ltOf Hcb3.out) hz3
                    have hfl : ((List.range k).filter pk).length ≤ k := by have := List.length_filter_le pk (List.range k); rw [List.length_range] at this; exact this
                    have Hown := Lib.hid hown
                    have Hbel := Lib.hid hbel
                    clear hown hbel e1 e2 e4 e0
                    by_cases hlt : k < l.length
                    · cases hpk : pk k with
                      | true =>
                        rw [hpk] at hlk
                        have hr : (List.range (k + 1)).filter pk = (List.range k).filter pk ++ [k] := by rw [List.range_succ, List.filter_append]; simp [hpk]
                        have Hr1 := Lib.hid hr
                        clear hr hpk
                        go_wp2_with (at_builtin
                                     refine wpList_push _ rfl (.tmp 134) (.tmp 136) _ rfl intT (base := W3.heap.size) (rows := ((List.range k).filter pk).map nvs) rfl (by exact Hown.out.alloc _) (g := wr.heap.size) (cells := #[.int .i64 k]) rfl (heap_alloc_new wr _) rfl (by simp [Value.oneCell']) (by rw [List.length_map]; omega) (by rw [List.length_map]; unfold maxLen; omega) (by simp; omega) ?_
                                     intro v4 w4 hown4 hup4 _
                                     have Hown4 := Lib.hid hown4
                                     have Hup4 := Lib.hid hup4
                                     clear hown4 hup4)
                        go_roundw
                        case rel =>
                          first
                            | refine ⟨_, _, _, ⟨k + 1, by omega, by go_num, by rw [Hr1.out, List.map_append]; exact Hown4.out, ?_⟩, rfl, rfl, rfl⟩
                            | refine ⟨k + 1, by omega, by go_num, by rw [Hr1.out, List.map_append]; exact Hown4.out, ?_⟩
                          exact (Hbel.out.trans ((below_box wr _).mono (by omega))).trans (Hup4.out.toLow (by simp; omega) (fun i hi => ((Hown.out.alloc (.cells #[.int .i64 (k : Int)] 3)).lt i hi).1))
                        case measure => simp [intOf]; omega
                      | false =>
                        rw [hpk] at hlk
                        have hr : (List.range (k + 1)).filter pk = (List.range k).filter pk := by rw [List.range_succ, List.filter_append]; simp [hpk]
                        have Hr1 := Lib.hid hr
                        clear hr hpk
                        go_wp2_with fail
                        go_roundw
                        case rel =>
                          first
                            | exact ⟨_, _, _, ⟨k + 1, by omega, by go_num, by rw [Hr1.out]; exact Hown.out, Hbel.out⟩, rfl, rfl, rfl⟩
                            | exact ⟨k + 1, by omega, by go_num, by rw [Hr1.out]; exact Hown.out, Hbel.out⟩
                        case measure => simp [intOf]; omega
                    · have hkk : k = l.length := by omega
                      subst hkk
                      go_wp2_with fail
                      have hk4 := (Hbel.out.block _ (ltOf Hk3.out)).trans Hk3.out
                      have hu4 : Upd wr (wr.putObj W0.heap.size (.deferred none)) (fun i => i = W0.heap.size) := (Upd.refl wr _).putObj _ _ (.inl rfl)
                      refine ⟨by simp, .inl ⟨_, _, rfl, run_takeDeferred hk4, ?_⟩⟩
                      refine ⟨_, results_tmp2 rfl _ _ _, _, rfl, ?_, ?_⟩
                      · rw [Hpk.out]
                        exact (Hown.out.upd hu4 (fun i hi e => by have := (Hown.out.lt i hi).1; have := ltOf Hk3.out; omega)).base_le (by have := Hbel3.out.size; omega)
                      · exact (Hbel3.out.trans (Hbel.out.mono Hbel3.out.size)).trans (hu4.toLow (by have := Hbel3.out.size; omega) (fun i e => by have := HD.out; omega))
                · refine ⟨some (.exit 4), W3, by rw [← hp]; exact Hend.out, ?_⟩
                  clear hp Hend
                  simp only []
                  refine wpIn_wide.2 ?_
                  simp only [List.append_nil]
                  go_wp2_with fail
                  go_loopw [18, 19, 122] (fun u _ i w' => ∃ k : Nat, k ≤ l.length ∧ i = .int .i64 k ∧ Own w' W3.heap.size 3 1 u (((List.range k).filter pk).map nvs) ∧ Below W3.heap.size W3 w') (fun _ _ i _ => l.length - (intOf i).toNat)
                  case atStart => exact ⟨0, Nat.zero_le _, rfl, Own.nil _ _ _ _, Below.refl _ _⟩
                  case round =>
                    obtain ⟨k, hk, rfl, hown, hbel⟩ := hrel
                    have hz3 := hbel.size
                    have hlk := MapF.lookup (Hm3.out.low hbel) intK Try.underlying61 (zeroB _) k
                    rw [setF_get] at hlk
                    obtain ⟨e1, e2, e3, e4, e0⟩ := box5 ((hbel.block _ (ltOf Hcb3.out)).trans Hcb3.out)
                    have hlcb := Nat.lt_of_lt_of_le (ltOf Hcb3.out) hz3
                    have hfl : ((List.range k).filter pk).length ≤ k := by have := List.length_filter_le pk (List.range k); rw [List.length_range] at this; exact this
                    have Hown := Lib.hid hown
                    have Hbel := Lib.hid hbel
                    clear hown hbel e1 e2 e4 e0
                    by_cases hlt : k < l.length
                    · cases hpk : pk k with
                      | true =>
                        rw [hpk] at hlk
                        have hr : (List.range (k + 1)).filter pk = (List.range k).filter pk ++ [k] := by rw [List.range_succ, List.filter_append]; simp [hpk]
                        have Hr1 := Lib.hid hr
                        clear hr hpk
                        go_wp2_with (at_builtin
                                     refine wpList_push _ rfl (.tmp 134) (.tmp 136) _ rfl intT (base := W3.heap.size) (rows := ((List.range k).filter pk).map nvs) rfl (by exact Hown.out.alloc _) (g := wr.heap.size) (cells := #[.int .i64 k]) rfl (heap_alloc_new wr _) rfl (by simp [Value.oneCell']) (by rw [List.length_map]; omega) (by rw [List.length_map]; unfold maxLen; omega) (by simp; omega) ?_
                                     intro v4 w4 hown4 hup4 _
                                     have Hown4 := Lib.hid hown4
                                     have Hup4 := Lib.hid hup4
                                     clear hown4 hup4)
                        go_roundw
                        case rel =>
                          first
                            | refine ⟨_, _, _, ⟨k + 1, by omega, by go_num, by rw [Hr1.out, List.map_append]; exact Hown4.out, ?_⟩, rfl, rfl, rfl⟩
                            | refine ⟨k + 1, by omega, by go_num, by rw [Hr1.out, List.map_append]; exact Hown4.out, ?_⟩
                          exact (Hbel.out.trans ((below_box wr _).mono (by omega))).trans (Hup4.out.toLow (by simp; omega) (fun i hi => ((Hown.out.alloc (.cells #[.int .i64 (k : Int)] 3)).lt i hi).1))
                        case measure => simp [intOf]; omega
                      | false =>
                        rw [hpk] at hlk
                        have hr : (List.range (k + 1)).filter pk = (List.range k).filter pk := by rw [List.range_succ, List.filter_append]; simp [hpk]
                        have Hr1 := Lib.hid hr
                        clear hr hpk
                        go_wp2_with fail
                        go_roundw
                        case rel =>
                          first
                            | exact ⟨_, _, _, ⟨k + 1, by omega, by go_num, by rw [Hr1.out]; exact Hown.out, Hbel.out⟩, rfl, rfl, rfl⟩
                            | exact ⟨k + 1, by omega, by go_num, by rw [Hr1.out]; exact Hown.out, Hbel.out⟩
                        case measure => simp [intOf]; omega
                    · have hkk : k = l.length := by omega
                      subst hkk
                      go_wp2_with fail
                      have hk4 := (Hbel.out.block _ (ltOf Hk3.out)).trans Hk3.out
                      have hu4 : Upd wr (wr.putObj W0.heap.size (.deferred none)) (fun i => i = W0.heap.size) := (Upd.refl wr _).putObj _ _ (.inl rfl)
                      refine ⟨by simp, .inl ⟨_, _, rfl, run_takeDeferred hk4, ?_⟩⟩
                      refine ⟨_, results_tmp2 rfl _ _ _, _, rfl, ?_, ?_⟩
                      · rw [Hpk.out]
                        exact (Hown.out.upd hu4 (fun i hi e => by have := (Hown.out.lt i hi).1; have := ltOf Hk3.out; omega)).base_le (by have := Hbel3.out.size; omega)
                      · exact (Hbel3.out.trans (Hbel.out.mono Hbel3.out.size)).trans (hu4.toLow (by have := Hbel3.out.size; omega) (fun i e => by have := HD.out; omega))
  · have hbad : (tol < 0 ∨ 1000 < tol) ∨ (0 < tol ∧ tol < 10) ∨ dep < 0 := by
      unfold argsOk at hok
      simp only [Bool.and_eq_true, Bool.or_eq_true, decide_eq_true_eq] at hok
      omega
    have hans : ChooseRes w l tol dep (.returned (.tuple #[.slice none 0 0, .int .i64 2])) (w.alloc (.cells #[.int .i64 dep] 3)) := by
      refine ⟨_, by unfold errno; rw [if_neg hok], ?_, below_box w _⟩
      unfold answer
      rw [if_neg hok]
      exact Own.nil _ _ _ _
    clear hok
    by_cases h1 : tol < 0
    · go_wp2_with fail
      exact endM_nil (results_tmp2 rfl _ _ _) rfl (by simpa using hans)
    · by_cases h2 : 1000 < tol
      · go_wp2_with fail
        exact endM_nil (results_tmp2 rfl _ _ _) rfl (by simpa using hans)
      · by_cases h3 : 0 < tol
        · by_cases h4 : tol < 10
          · go_wp2_with fail
            exact endM_nil (results_tmp2 rfl _ _ _) rfl (by simpa using hans)
          · have h5 : dep < 0 := by omega
            go_wp2_with fail
            exact endM_nil (results_tmp2 rfl _ _ _) rfl (by simpa using hans)
        · have h5 : dep < 0 := by omega
          go_wp2_with fail
          exact endM_nil (results_tmp2 rfl _ _ _) rfl (by simpa using hans)

end Go.Proofs.Ytikgjappablbhaa
