/-
  Walk over ref17.Choose.
-/
import Derived.Test.YtikgjappablbhaaSpeaks
import Derived.Deep.CutBlock
namespace Go.Proofs.Ytikgjappablbhaa
open Go.RowKit

/-- A Bool's cell. -/
def bvs (b : Bool) : List Value := [.bool b]
theorem boolT : SliceTy Try.prog 67 4 1 1 := sliceTy Try.underlying67 (z := .bool false) (by kernel_rfl) rfl (by omega)
theorem bvs_map (l : List Bool) : l.map bvs = (l.map fun b => Value.bool b).map fun u => [u] := by simp [bvs, List.map_map, Function.comp_def]
theorem own_rd_b {w : World} {base : Nat} {e : TypeId} {v : Value} {o : List Bool} (h : Own w base e 1 v (o.map bvs)) (hn : o.length ≤ 1000000) : Rd w w.heap.size (.sl 1 (o.map encB)) v := by
  have := h.rd (by rw [List.length_map]; omega)
  have e : (o.map bvs).map (fun r => r.map Tr.leaf) = o.map encB := by simp [bvs, encB]
  rw [e] at this
  exact this
theorem false_rows {α : Type} (S : List α) (f : α → Bool) (h : ∀ s, f s = false) : List.replicate S.length (Value.bool false) = ((S.map f).map bvs).flatten := by
  induction S with
  | nil => rfl
  | cons s S ih => simp [bvs, h, List.replicate_succ] at ih ⊢; exact ih

/-- What holds of ref17.Choose's parts. -/
structure RfSt (w0 w : World) (vs vn : Value) (gt gc : Nat) (S : List Sy) (c : Sy → Nat) (n : Nat) (s : ChS) : Prop where
  hs : Own w w0.heap.size 31 3 vs (S.map svs)
  hn : Own w w0.heap.size 3 1 vn ((S.map c).map nvs)
  ht : Own w w0.heap.size 4 1 (.slice (some ⟨gt, 0, none⟩) S.length S.length) ((S.map s.2).map bvs)
  hc : Own w w0.heap.size 4 1 (.slice (some ⟨gc, 0, none⟩) n n) (((List.range n).map s.1).map bvs)
  ne : gt ≠ gc
  bel : Below w0.heap.size w0 w

section
variable {w0 w w' : World} {vs vn : Value} {gt gc n : Nat} {S : List Sy} {c : Sy → Nat} {s s' : ChS}
theorem RfSt.low (h : RfSt w0 w vs vn gt gc S c n s) (hb : Below w.heap.size w w') : RfSt w0 w' vs vn gt gc S c n s :=
  ⟨h.hs.low hb, h.hn.low hb, h.ht.low hb, h.hc.low hb, h.ne, h.bel.trans (hb.mono h.bel.size)⟩
theorem RfSt.alloc (h : RfSt w0 w vs vn gt gc S c n s) (o : Obj) : RfSt w0 (w.alloc o) vs vn gt gc S c n s := h.low (below_box w o)
theorem RfSt.cong (h : RfSt w0 w vs vn gt gc S c n s) (h1 : ∀ i, i < n → s'.1 i = s.1 i) (h2 : ∀ y, y ∈ S → s'.2 y = s.2 y) : RfSt w0 w vs vn gt gc S c n s' := by
  have e1 : (List.range n).map s'.1 = (List.range n).map s.1 := List.map_congr_left fun i hi => h1 i (List.mem_range.1 hi)
  have e2 : S.map s'.2 = S.map s.2 := List.map_congr_left fun y hy => h2 y hy
  exact ⟨h.hs, h.hn, by rw [e2]; exact h.ht, by rw [e1]; exact h.hc, h.ne, h.bel⟩

theorem RfSt.setC (h : RfSt w0 w vs vn gt gc S c n s) (j : Nat) : RfSt w0 (w.setCell ⟨gc, j, none⟩ (.bool true)) vs vn gt gc S c n (fun i => decide (i = j) || s.1 i, s.2) := by
  have hu : Upd w (w.setCell ⟨gc, j, none⟩ (.bool true)) (fun i => i = gc) := (Upd.refl w _).setCell _ _ (.inl rfl)
  have hc' := h.hc
  rw [bvs_map] at hc'
  have h1 := hc'.set1 (j := j) (.bool true)
  have hset : (((List.range n).map s.1).map fun b => Value.bool b).set j (.bool true) = ((List.range n).map fun i => decide (i = j) || s.1 i).map fun b => Value.bool b := by
    refine List.ext_getElem (by simp) fun i h1 h2 => ?_
    have hi : i < n := by simpa using h1
    rw [List.getElem_set]
    by_cases hij : j = i
    · subst hij; simp
    · rw [if_neg hij]
      have : i ≠ j := fun e => hij e.symm
      simp [this]
  rw [hset, ← bvs_map] at h1
  refine ⟨h.hs.upd hu (fun i hi e => ?_), h.hn.upd hu (fun i hi e => ?_), h.ht.upd hu (fun i hi e => ?_), h1, h.ne, h.bel.setCell (by have := (h.hc.lt gc rfl).1; simp; omega) _⟩
  · exact h.hc.ne_own h.hs (by decide) gc rfl (by rw [hi, e])
  · exact h.hc.ne_own h.hn (by decide) gc rfl (by rw [hi, e])
  · have : gt = i := by injection hi
    exact h.ne (this.trans e)
theorem RfSt.setT (h : RfSt w0 w vs vn gt gc S c n s) {j : Nat} (hj : j < S.length) (hnd : S.Nodup) : RfSt w0 (w.setCell ⟨gt, j, none⟩ (.bool true)) vs vn gt gc S c n (s.1, fun y => decide (y = S[j]) || s.2 y) := by
  have hu : Upd w (w.setCell ⟨gt, j, none⟩ (.bool true)) (fun i => i = gt) := (Upd.refl w _).setCell _ _ (.inl rfl)
  have hc' := h.ht
  rw [bvs_map] at hc'
  have h1 := hc'.set1 (j := j) (.bool true)
  have hset : ((S.map s.2).map fun b => Value.bool b).set j (.bool true) = (S.map fun y => decide (y = S[j]) || s.2 y).map fun b => Value.bool b := by
    refine List.ext_getElem (by simp) fun i h1 h2 => ?_
    have hi : i < S.length := by simpa using h1
    rw [List.getElem_set]
    by_cases hij : j = i
    · subst hij; simp
    · rw [if_neg hij]
      have : S[i] ≠ S[j] := fun e => hij ((List.getElem_inj hnd).1 e).symm
      simp [this]
  rw [hset, ← bvs_map] at h1
  refine ⟨h.hs.upd hu (fun i hi e => ?_), h.hn.upd hu (fun i hi e => ?_), h1, h.hc.upd hu (fun i hi e => ?_), h.ne, h.bel.setCell (by have := (h.ht.lt gt rfl).1; simp; omega) _⟩
  · exact h.ht.ne_own h.hs (by decide) gt rfl (by rw [hi, e])
  · exact h.ht.ne_own h.hn (by decide) gt rfl (by rw [hi, e])
  · have : gc = i := by injection hi
    exact h.ne (e.symm.trans this.symm)
theorem RfSt.atC (h : RfSt w0 w vs vn gt gc S c n s) {j : Nat} (hj : j < n) : w.cell? ⟨gc, j, none⟩ = some (.bool (s.1 j)) ∧ w.frozen? ⟨gc, j, none⟩ = false := by
  obtain ⟨g, hg, _, _, hcell, hfr⟩ := h.hc.row_at (k := j) (by simpa using hj) (by omega)
  injection hg with hg
  injection hg with hg
  subst hg
  have h0 := hcell 0 (by omega)
  have f0 := hfr 0 (by omega)
  simp only [List.getElem_map, bvs, List.getElem_cons_zero, Nat.mul_one, Nat.add_zero, List.getElem_range] at h0 f0
  exact ⟨h0, f0⟩
theorem RfSt.atT (h : RfSt w0 w vs vn gt gc S c n s) {j : Nat} (hj : j < S.length) : w.cell? ⟨gt, j, none⟩ = some (.bool (s.2 S[j])) ∧ w.frozen? ⟨gt, j, none⟩ = false := by
  obtain ⟨g, hg, _, _, hcell, hfr⟩ := h.ht.row_at (k := j) (by simpa using hj) (by omega)
  injection hg with hg
  injection hg with hg
  subst hg
  have h0 := hcell 0 (by omega)
  have f0 := hfr 0 (by omega)
  simp only [List.getElem_map, bvs, List.getElem_cons_zero, Nat.mul_one, Nat.add_zero] at h0 f0
  exact ⟨h0, f0⟩
end

set_option maxRecDepth 100000 in
set_option maxHeartbeats 4000000 in
theorem refChoose_any (l : List En) (tol dep : Int) (v : Value) (B : Nat) (w : World) (hr : Rd w B (.sl 7 (l.map encEn)) v) (hB : B ≤ w.heap.size) (hf : Few l) :
    Calls Try.prog 14 #[v, .int .i64 tol, .int .i64 dep] w (ChooseRes w l tol dep) := by
  obtain ⟨A, c, rfl, hc, hn, hm⟩ := hr.sl_form
  rw [List.length_map] at hc hn hr ⊢
  have Hr := Lib.hid hr
  have Hf := Lib.hid hf
  have hl3 := hf.1
  clear hr hf
  unfold maxLen at hm
  obtain ⟨i0, hi0, hz0, hz1, hz2⟩ := info_parts (P := Try.prog) (e := 4) (z := .bool false) (size := 1) (bytes := 1) (by kernel_rfl)
  by_cases hok : argsOk tol dep = true
  · have hg : 0 ≤ tol ∧ tol ≤ 1000 ∧ (tol = 0 ∨ 10 ≤ tol) ∧ 0 ≤ dep := by
      unfold argsOk at hok
      simp only [Bool.and_eq_true, Bool.or_eq_true, decide_eq_true_eq] at hok
      omega
    obtain ⟨t, rfl⟩ : ∃ t : Nat, tol = t := ⟨tol.toNat, by omega⟩
    obtain ⟨d, rfl⟩ : ∃ d : Nat, dep = d := ⟨dep.toNat, by omega⟩
    obtain ⟨hg1, hg2, hg3, hg4⟩ := hg
    have hpk : ChooseRes w l t d = fun e w' => ∃ v, e = .returned (.tuple #[v, .int .i64 0]) ∧ Own w' w.heap.size 3 1 v ((picked l t d).map nvs) ∧ Below w.heap.size w w' := by
      funext e w'
      unfold ChooseRes errno answer
      rw [if_pos hok, if_pos hok]
      rfl
    rw [hpk]
    clear hpk hok
    go_enter Try.func14, Try.ntmps14
    go_upto_region 1 with fail
    go_cut [41] from 192 (fun b w' => b = .bool false ∧ w' = w)
    · by_cases h0 : t = 0
      · go_wp2_with fail
        go_meet
        exact ⟨rfl, rfl⟩
      · have h1 : 10 ≤ t := by omega
        go_wp2_with fail
        go_meet
        exact ⟨by simp; omega, rfl⟩
    obtain ⟨rfl, hwc⟩ := hcut
    rw [hwc]
    clear hwc
    go_upto_region 4 with (go_at_call 11
                           refine (refCommon_any l _ B _ Hr.out hB Hf.out).mono ?_
                           rintro e w1 ⟨vs, vn, rfl, hos, hon, hb1⟩
                           obtain ⟨As, cs, hvs, hcs, hms⟩ := hos.form
                           obtain ⟨An, cn, hvn, hcn, hmn⟩ := hon.form
                           rw [List.length_map] at hvs hcs hvn hcn
                           subst hvs
                           subst hvn)
    have hsl : (allSy l).length ≤ 900000 := by
      have := allSy_len (few_nodes Hf.out)
      omega
    have hcm : commons l = (allSy l).map (common l) := rfl
    have hmem : ∀ x ∈ l, ∀ y ∈ own x, y ∈ allSy l := fun x hx y hy => (mem_allSy l y).2 ⟨x, hx, hy⟩
    have hnd := allSy_nodup l
    have hczero : ∀ y, y ∉ allSy l → common l y = 0 := fun y hy => common_zero hy
    have Hmem := Lib.hid hmem
    have Hnd := Lib.hid hnd
    rw [hcm] at hon hcn ⊢
    rw [List.length_map] at hcn hon ⊢
    have Hos := Lib.hid hos
    have Hon := Lib.hid hon
    have Hb1 := Lib.hid hb1
    have hz1' := hb1.size
    clear hos hon hb1 hmem hnd hcm hczero
    generalize allSy l = S at Hmem Hnd Hos Hon hsl hcs hcn ⊢
    go_upto_region 5 with (at_make
                           (refine wpList_make_full _ rfl (.tmp 48) (.tmp 48) _ rfl w.heap.size 4 i0 _ 1 Try.underlying67 hi0 hz0 hz1 .i64 .i64 _ _ S.length rfl rfl rfl rfl (by rw [hz2]; omega) (by unfold maxLen; omega) hz1' ?_)
                           intro w2 hown2 hg2
                           have Hown2 := Lib.hid hown2
                           have Hg2 := Lib.hid hg2
                           clear hown2 hg2)
    have hu2 := Upd.grown Hg2.out
    have hz2' := hu2.size
    go_upto_region 6 with (at_make
                           (refine wpList_make_full _ rfl (.tmp 51) (.tmp 51) _ rfl w.heap.size 4 i0 _ 1 Try.underlying67 hi0 hz0 hz1 .i64 .i64 _ _ l.length rfl rfl rfl rfl (by rw [hz2]; omega) (by unfold maxLen; omega) (by omega) ?_)
                           intro w3 hown3 hg3
                           have Hown3 := Lib.hid hown3
                           have Hg3 := Lib.hid hg3
                           clear hown3 hg3)
    have hu3 := Upd.grown Hg3.out
    have hb2 : Below w1.heap.size w1 w2 := hu2.toLow (Nat.le_refl _) (by simp)
    have hb3 : Below w2.heap.size w2 w3 := hu3.toLow (Nat.le_refl _) (by simp)
    have hst : RfSt w w3 (.slice As S.length cs) (.slice An S.length cn) w1.heap.size w2.heap.size S (common l) l.length (start []) := by
      have e1 : (madeCells (Value.bool false).cells (S.length * 1)).toList = ((S.map (start []).2).map bvs).flatten := by
        rw [show (Value.bool false).cells = #[Value.bool false] from rfl, toList_madeCells_one, Nat.mul_one]
        exact false_rows S _ (fun s => by simp [start])
      have e2 : (madeCells (Value.bool false).cells (l.length * 1)).toList = (((List.range l.length).map (start []).1).map bvs).flatten := by
        rw [show (Value.bool false).cells = #[Value.bool false] from rfl, toList_madeCells_one, Nat.mul_one]
        have := false_rows (List.range l.length) (start []).1 (fun i => by simp [start])
        rwa [List.length_range] at this
      have hT : Own w2 w.heap.size 4 1 (.slice (some ⟨w1.heap.size, 0, none⟩) S.length S.length) ((S.map (start []).2).map bvs) := by
        refine ⟨?_, fun r hr => ?_⟩
        · have := Hown2.out
          rw [e1] at this
          simpa using this
        · obtain ⟨b, _, rfl⟩ := List.mem_map.1 hr
          rfl
      have hC : Own w3 w.heap.size 4 1 (.slice (some ⟨w2.heap.size, 0, none⟩) l.length l.length) (((List.range l.length).map (start []).1).map bvs) := by
        refine ⟨?_, fun r hr => ?_⟩
        · have := Hown3.out
          rw [e2] at this
          simpa using this
        · obtain ⟨b, _, rfl⟩ := List.mem_map.1 hr
          rfl
      have hlt := (hT.lt w1.heap.size rfl).2
      exact ⟨(Hos.out.low hb2).low hb3, (Hon.out.low hb2).low hb3, hT.low hb3, hC, by omega, (Hb1.out.trans (hb2.mono hz1')).trans (hb3.mono (by omega))⟩
    have Hst := Lib.hid hst
    have Hb3 := Lib.hid (hst.bel)
    have hne := hst.ne
    clear hst hb2 hb3 hu2 hu3 Hown2 Hown3 Hg2 Hg3 Hos Hon Hb1
    generalize w1.heap.size = gt at Hst hne ⊢
    generalize w2.heap.size = gc at Hst hne ⊢
    clear hz1' hz2' hi0 hz0 hz1 hz2
    go_wp2_with fail
    go_loopw [12, 13] (fun g i wr => ∃ k : Nat, k ≤ l.length ∧ i = .int .i64 k ∧ g = .bool ((l.take k).any fun x => isGoal x.role) ∧ RfSt w wr (.slice As S.length cs) (.slice An S.length cn) gt gc S (common l) l.length (start (l.take k))) (fun _ i _ => l.length - (intOf i).toNat)
    case atStart => exact ⟨0, Nat.zero_le _, rfl, by simp, Hst.out⟩
    case round =>
      clear Hst Hb3
      obtain ⟨k, hk, rfl, rfl, hst⟩ := hrel
      have hz3 := hst.bel.size
      have Hst := Lib.hid hst
      clear hst
      by_cases hlt : k < l.length
      · obtain ⟨ab, off, o, v, tt, aa, rfl, hb, c0, c1, c2, c3, c4, c5, c6, hrd⟩ := (Hr.out.low Hst.out.bel hB).en_at hlt
        obtain ⟨A1, A2, A3, n1, n2, n3, cc1, cc2, cc3, rfl, rfl, rfl⟩ := hrd.forms
        have hnf := few_nodes Hf.out l[k] (List.getElem_mem hlt)
        have Hrd := Lib.hid hrd
        clear hrd
        have hsn : ((l.take (k + 1)).any fun x => isGoal x.role) = (((l.take k).any fun x => isGoal x.role) || isGoal l[k].role) := by
          rw [List.take_succ_eq_append_getElem hlt, List.any_append]; simp
        by_cases hg : isGoal l[k].role = true
        · rw [hg, Bool.or_true] at hsn
          have Hsn := Lib.hid hsn
          have hst1 : start (l.take (k + 1)) = (fun i => decide (i = k) || (start (l.take k)).1 i, fun y => hasSy (own l[k]) y || (start (l.take k)).2 y) := by
            rw [List.take_succ_eq_append_getElem hlt]
            refine Prod.ext (funext fun i => ?_) (funext fun y => ?_)
            · rw [start_snoc1, hg, List.length_take, Nat.min_eq_left hk, Bool.true_and]
            · rw [start_snoc2, hg, Bool.true_and]
          have Hst1 := Lib.hid hst1
          have hmemO := Hmem.out l[k] (List.getElem_mem hlt)
          have HmemO := Lib.hid hmemO
          have hlo := own_len l[k]
          clear hsn hst1 hmemO
          generalize hO : own l[k] = O at Hst1 HmemO hlo
          have HO := Lib.hid hO
          clear hO
          go_upto_region 14 with (first
            | (go_at_call 23
               refine (refGoal_any _ _ _ _ _ _ _ _).mono ?_
               rintro e w5 ⟨rfl, hb5⟩
               rw [hg]
               obtain ⟨tc0, tf0⟩ := (Hst.out.low hb5).atC hlt
               obtain ⟨hgc5, hlt5⟩ := ((Hst.out.low hb5).hc.lt gc rfl)
               have hz5 := hb5.size
               have hcc := fun o (h : ab < wr.heap.size) => hb5.cell (p := ⟨ab, o, none⟩) h
               have d3 := (hcc _ (by omega)).trans c3
               have d4 := (hcc _ (by omega)).trans c4
               have d5 := (hcc _ (by omega)).trans c5
               have d6 := (hcc _ (by omega)).trans c6
               have Hb5 := Lib.hid hb5
               clear hb5 hcc c0 c1 c2 c3 c4 c5 c6
               have hab : ab ≠ gc := by omega)
            | (go_at_call 16
               refine (symbols_any _ l[k].form o _ _ _ _ [] B w.heap.size _ (Nat.le_refl _) ((Hrd.out.low Hb5.out (by omega)).low (((Upd.refl w5 (fun i => i = gc)).setCell ⟨gc, k, none⟩ (.bool true) (.inl rfl)).toLow (B := w.heap.size) (by omega) (fun i e => by omega)) hB) hB (by simp; omega) (Own.nil _ _ _ _) (by simp; omega)).mono ?_
               rintro e w6 ⟨vo, rfl, hown6, hup6, _⟩
               have Hown6 := Lib.hid hown6
               have Hup6 := Lib.hid hup6
               clear hown6 hup6))
          have hst6 := (((Hst.out.low Hb5.out).setC k).low (Hup6.out.toLow (Nat.le_refl _) (by simp [Value.ownBlock])))
          have HstM := Lib.hid hst6
          have hown7 : Own w6 w.heap.size 31 3 vo (O.map svs) := by rw [← HO.out]; exact Hown6.out
          obtain ⟨Ao, co, hvo, hco, hmo⟩ := hown7.form
          rw [List.length_map] at hvo hco
          subst hvo
          have HownM := Lib.hid hown7
          have HxM := Lib.hid (Own.nil w6 w.heap.size 3 1)
          unfold maxLen at hmo
          clear hst6 hown7 Hown6 Hup6 tc0 tf0 d3 d4 d5 d6
          go_wp2_with fail
          obtain ⟨wo, rfl⟩ : ∃ wo : World, wo = wr := ⟨_, rfl⟩
          go_loopw [15] (fun i w' => ∃ k2 : Nat, k2 ≤ O.length ∧ i = .int .i64 k2 ∧ RfSt w w' (.slice As S.length cs) (.slice An S.length cn) gt gc S (common l) l.length ((fun i => decide (i = k) || (start (l.take k)).1 i), fun y => hasSy (O.take k2) y || (start (l.take k)).2 y) ∧ Own w' w.heap.size 31 3 (.slice Ao O.length co) (O.map svs) ∧ Own w' w.heap.size 3 1 (.slice none 0 0) (([] : List Nat).map nvs)) (fun i _ => O.length - (intOf i).toNat)
          case atStart => exact ⟨0, Nat.zero_le _, rfl, HstM.out.cong (fun _ _ => rfl) (fun _ _ => by simp [hasSy]), HownM.out, HxM.out⟩
          case round =>
            clear HstM HownM HxM
            obtain ⟨k2, hk2, rfl, hst2, hown2, hxm⟩ := hrel
            have HxM := Lib.hid hxm
            clear hxm
            have hzz := hst2.bel.size
            have Hst2 := Lib.hid hst2
            have Hown2 := Lib.hid hown2
            clear hst2 hown2
            by_cases hlt2 : k2 < O.length
            · obtain ⟨go, rfl, hbo, hgo, e0, e1, e2⟩ := Hown2.out.sy_at hlt2
              obtain ⟨j, hj, hidx, hSj⟩ := idxSy_mem (HmemO.out _ (List.getElem_mem hlt2))
              have Hidx := Lib.hid hidx
              have HSj := Lib.hid hSj
              clear hidx hSj
              go_wp2_with (go_at_call 24
                           refine (at_any S O[k2] _ _ _ (own_rd_sy Hst2.out.hs (by omega)) (Nat.le_refl _)).mono ?_
                           rintro e w4 ⟨rfl, hb4⟩
                           rw [Hidx.out]
                           obtain ⟨tc0, tf0⟩ := (Hst2.out.low hb4).atT hj
                           have hlt4 := ((Hst2.out.low hb4).ht.lt gt rfl).2
                           have Hb4 := Lib.hid hb4
                           clear hb4)
              go_roundw
              case rel =>
                have h1 := (Hst2.out.low Hb4.out).setT hj Hnd.out
                refine ⟨k2 + 1, by omega, by go_num, h1.cong (fun _ _ => rfl) (fun y _ => ?_), ?_, ?_⟩
                · simp only []
                  rw [hasSy_take_succ hlt2, HSj.out, Bool.or_assoc]
                · exact (Hown2.out.low Hb4.out).upd ((Upd.refl w4 (fun i => i = gt)).setCell _ _ (.inl rfl)) (fun i hi e => (Hst2.out.low Hb4.out).ht.ne_own (Hown2.out.low Hb4.out) (by decide) gt rfl (by rw [hi, e]))
                · exact (HxM.out.low Hb4.out).upd ((Upd.refl w4 (fun i => i = gt)).setCell _ _ (.inl rfl)) (fun i hi e => (Hst2.out.low Hb4.out).ht.ne_own (HxM.out.low Hb4.out) (by decide) gt rfl (by rw [hi, e]))
              case measure => simp [intOf]; omega
            · have hkk : k2 = O.length := by omega
              subst hkk
              have hstE := Hst2.out.cong (s' := ((fun i => decide (i = k) || (start (l.take k)).1 i), fun y => hasSy O y || (start (l.take k)).2 y)) (fun _ _ => rfl) (fun y _ => by rw [List.take_length])
              have HstE := Lib.hid hstE
              clear hstE Hst2
              go_wp2_with fail
              go_roundw
              case rel => exact ⟨k + 1, by omega, by go_num, by rw [Hsn.out], by rw [Hst1.out]; exact HstE.out⟩
              case measure => simp [intOf]; omega
        · rw [Bool.not_eq_true] at hg
          rw [hg, Bool.or_false] at hsn
          have Hsn := Lib.hid hsn
          have hst1 : start (l.take (k + 1)) = start (l.take k) := by
            rw [List.take_succ_eq_append_getElem hlt]
            refine Prod.ext (funext fun i => ?_) (funext fun y => ?_)
            · rw [start_snoc1]; simp [hg]
            · rw [start_snoc2]; simp [hg]
          have Hst1 := Lib.hid hst1
          clear hsn hst1
          go_wp2_with (go_at_call 23
                       refine (refGoal_any _ _ _ _ _ _ _ _).mono ?_
                       rintro e w5 ⟨rfl, hb5⟩
                       rw [hg])
          go_roundw
          case rel => exact ⟨k + 1, by omega, by go_num, by rw [Hsn.out], by rw [Hst1.out]; exact Hst.out.low hb5⟩
          case measure => simp [intOf]; omega
      · have hkk : k = l.length := by omega
        subst hkk
        rw [List.take_length] at Hst ⊢
        have hal : allIn l t = (decide (t = 0) || !(l.any fun x => isGoal x.role)) := rfl
        generalize (l.any fun x => isGoal x.role) = gB at hal ⊢
        have Hal := Lib.hid hal
        clear hal
        go_upto_block 4 with fail
        obtain ⟨ws, rfl⟩ : ∃ ws : World, ws = wr := ⟨_, rfl⟩
        go_cut [16, 17, 18, 19, 20, 21] from 87 to 168 (fun _ _ _ _ _ _ w' => ∃ s, RfSt w w' (.slice As S.length cs) (.slice An S.length cn) gt gc S (common l) l.length s ∧ (allIn l t = false → s = final l t d))
        · go_wp2_with fail
          go_loopw [16] (fun i wr => ∃ r : Nat, i = .int .i64 ((r : Int) + 1) ∧ RfSt w wr (.slice As S.length cs) (.slice An S.length cn) gt gc S (common l) l.length (rnds (common l) t (ows l) r (start l)) ∧ (allIn l t = true → r = 0) ∧ r ≤ many l.length (rnds (common l) t (ows l) r (start l)).1 ∧ (d ≠ 0 → r ≤ d)) (fun i _ => l.length + 2 - (intOf i).toNat)
          case atStart => exact ⟨0, by simp, Hst.out, fun _ => rfl, Nat.zero_le _, fun _ => Nat.zero_le _⟩
          case round =>
            clear Hst
            obtain ⟨r, rfl, hst, hr0, hrm, hrd⟩ := hrel
            have hml := many_le l.length (rnds (common l) t (ows l) r (start l)).1
            have hz3 := hst.bel.size
            have Hst := Lib.hid hst
            have Hrm := Lib.hid hrm
            clear hst
            cases hal : allIn l t with
            | true =>
              have hcs : gB = false ∨ (gB = true ∧ t = 0) := by
                have := Hal.out
                rw [hal] at this
                cases gB with
                | false => exact .inl rfl
                | true => exact .inr ⟨rfl, by simpa using this.symm⟩
              have Hfin := Lib.hid (show allIn l t = false → rnds (common l) t (ows l) r (start l) = final l t d from fun h => by rw [hal] at h; cases h)
              clear hal hr0 hrm hrd hml
              rcases hcs with rfl | ⟨rfl, h0⟩
              · go_wp2_with fail
                go_meet
                exact ⟨_, Hst.out, Hfin.out⟩
              · have ht : ¬ (0 : Int) < t := by omega
                clear h0
                go_wp2_with fail
                go_meet
                exact ⟨_, Hst.out, Hfin.out⟩
            | false =>
              obtain ⟨rfl, ht⟩ : gB = true ∧ (0 : Int) < t := by
                have := Hal.out
                rw [hal] at this
                cases gB with
                | false => simp at this
                | true => exact ⟨rfl, by have h2 := this.symm; simp at h2; omega⟩
              have Hal0 := Lib.hid hal
              clear hal hr0
              by_cases hd : d ≠ 0 ∧ r = d
              · obtain ⟨hd1, rfl⟩ := hd
                have hd0 : ((r : Int) == 0) = false := by rw [beq_eq_false_iff_ne]; omega
                have Hfin := Lib.hid (final_of (l := l) (tol := t) (dep := r) (.inr ⟨rfl, hd1⟩))
                go_wp2_with fail
                go_meet
                exact ⟨_, Hst.out, fun _ => Hfin.out⟩
              · have hdr : d ≠ 0 → r < d := fun h => by have := hrd h; omega
                have Hdr := Lib.hid hdr
                go_upto_region 19 with fail
                go_cut [100] from 87 to 99 (fun b w' => b = .bool true ∧ w' = wr)
                · by_cases h0 : d = 0
                  · have hd0 : ((d : Int) == 0) = true := by rw [h0]; rfl
                    clear h0 hd hdr hrd
                    go_wp2_with fail
                    go_meet
                    exact ⟨rfl, rfl⟩
                  · have hd0 : ((d : Int) == 0) = false := by rw [beq_eq_false_iff_ne]; omega
                    have hle : (r : Int) + 1 ≤ d := by have := hdr h0; omega
                    clear h0 hd hdr hrd
                    go_wp2_with fail
                    go_meet
                    exact ⟨rfl, rfl⟩
                obtain ⟨rfl, hwc⟩ := hcut
                rw [hwc]
                clear hwc hd hdr hrd
                generalize hs1 : rnds (common l) t (ows l) r (start l) = s1 at Hst Hrm hml
                have Hs1 := Lib.hid hs1
                clear hs1
                have hrn : r ≤ l.length := by have := Hrm.out; omega
                have hrb : r ≤ 300 := by omega
                obtain ⟨wo, rfl⟩ : ∃ wo : World, wo = wr := ⟨_, rfl⟩
                go_wp2_with fail
                go_loopw [17, 18] (fun u i w' => ∃ k : Nat, k ≤ l.length ∧ i = .int .i64 k ∧ Own w' wo.heap.size 3 1 u ((moreTo (common l) t (ows l) s1 k).map nvs) ∧ Below wo.heap.size wo w') (fun _ i _ => l.length - (intOf i).toNat)
                case atStart => exact ⟨0, Nat.zero_le _, rfl, Own.nil _ _ _ _, Below.refl _ _⟩
                case round =>
                  obtain ⟨k, hk, rfl, hown, hbel⟩ := hrel
                  have hz4 := hbel.size
                  have hmt := moreTo_len (common l) t (ows l) s1 k
                  have Hst4 := Lib.hid (Hst.out.low hbel)
                  have Hown := Lib.hid hown
                  have Hbel := Lib.hid hbel
                  clear hown hbel
                  by_cases hlt : k < l.length
                  · have hsn := moreTo_succ (common l) t (ows l) s1 k (by rw [ows_len]; exact hlt)
                    have how : (ows l)[k]'(by rw [ows_len]; exact hlt) = own l[k] := by simp [ows]
                    rw [how] at hsn
                    clear how
                    obtain ⟨tc0, tf0⟩ := Hst4.out.atC hlt
                    obtain ⟨ab, off, o, v, tt, aa, rfl, hb, c0, c1, c2, c3, c4, c5, c6, hrd⟩ := (Hr.out.low Hst4.out.bel hB).en_at hlt
                    obtain ⟨A1, A2, A3, n1, n2, n3, cc1, cc2, cc3, rfl, rfl, rfl⟩ := hrd.forms
                    have hnf := few_nodes Hf.out l[k] (List.getElem_mem hlt)
                    have hlo := own_len l[k]
                    have HmemO := Lib.hid (Hmem.out l[k] (List.getElem_mem hlt))
                    have Hrd := Lib.hid hrd
                    clear hrd c0 c1 c2
                    cases hch : s1.1 k with
                    | true =>
                      rw [hch] at hsn tc0
                      have Hsn := Lib.hid hsn
                      clear hsn hch
                      go_wp2_with fail
                      go_roundw
                      case rel => exact ⟨k + 1, by omega, by go_num, by rw [Hsn.out]; exact Hown.out, Hbel.out⟩
                      case measure => simp [intOf]; omega
                    | false =>
                      rw [hch] at hsn tc0
                      have Hsn := Lib.hid hsn
                      clear hsn hch
                      cases htg : trig (common l) s1.2 t (own l[k]) with
                      | false =>
                        rw [htg] at Hsn
                        have Htg := Lib.hid htg
                        clear htg
                        go_wp2_with (first
                          | (go_at_call 16
                             refine (symbols_any _ l[k].form o _ _ _ _ [] B w.heap.size _ (Nat.le_refl _) Hrd.out hB (by omega) (Own.nil _ _ _ _) (by simp; omega)).mono ?_
                             rintro e w6 ⟨vo, rfl, hown6, hup6, _⟩
                             have hb6 : Below wr.heap.size wr w6 := hup6.toLow (Nat.le_refl _) (by simp [Value.ownBlock])
                             have hz6 := hb6.size
                             have Hown6 := Lib.hid hown6
                             have Hb6 := Lib.hid hb6
                             clear hown6 hb6 hup6)
                          | (go_at_call 27
                             refine (refTrig_any S (own l[k]) (common l) s1.2 t _ _ _ _ _ _ (own_rd_sy (o := own l[k]) Hown6.out (by omega)) (own_rd_sy (Hst4.out.low Hb6.out).hs (by omega)) (own_rd_n (Hst4.out.low Hb6.out).hn (by rw [List.length_map]; omega)) (own_rd_b (Hst4.out.low Hb6.out).ht (by rw [List.length_map]; omega)) (Nat.le_refl _) (fun s => Nat.le_trans (common_le l s) (by omega)) (by omega) HmemO.out).mono ?_
                             rintro e w7 ⟨rfl, hb7⟩
                             rw [Htg.out]
                             have Hb7 := Lib.hid hb7
                             clear hb7))
                        go_roundw
                        case rel => exact ⟨k + 1, by omega, by go_num, by rw [Hsn.out]; exact (Hown.out.low Hb6.out).low Hb7.out, Hbel.out.trans ((Hb6.out.trans (Hb7.out.mono hz6)).mono (by omega))⟩
                        case measure => simp [intOf]; omega
                      | true =>
                        rw [htg] at Hsn
                        have Htg := Lib.hid htg
                        clear htg
                        go_wp2_with (first
                          | (go_at_call 16
                             refine (symbols_any _ l[k].form o _ _ _ _ [] B w.heap.size _ (Nat.le_refl _) Hrd.out hB (by omega) (Own.nil _ _ _ _) (by simp; omega)).mono ?_
                             rintro e w6 ⟨vo, rfl, hown6, hup6, _⟩
                             have hb6 : Below wr.heap.size wr w6 := hup6.toLow (Nat.le_refl _) (by simp [Value.ownBlock])
                             have hz6 := hb6.size
                             have Hown6 := Lib.hid hown6
                             have Hb6 := Lib.hid hb6
                             clear hown6 hb6 hup6)
                          | (go_at_call 27
                             refine (refTrig_any S (own l[k]) (common l) s1.2 t _ _ _ _ _ _ (own_rd_sy (o := own l[k]) Hown6.out (by omega)) (own_rd_sy (Hst4.out.low Hb6.out).hs (by omega)) (own_rd_n (Hst4.out.low Hb6.out).hn (by rw [List.length_map]; omega)) (own_rd_b (Hst4.out.low Hb6.out).ht (by rw [List.length_map]; omega)) (Nat.le_refl _) (fun s => Nat.le_trans (common_le l s) (by omega)) (by omega) HmemO.out).mono ?_
                             rintro e w7 ⟨rfl, hb7⟩
                             rw [Htg.out]
                             have hz7 := hb7.size
                             have Hb7 := Lib.hid hb7
                             clear hb7)
                          | (at_builtin
                             refine wpList_push _ rfl (.tmp 127) (.tmp 129) _ rfl intT (base := wo.heap.size) (rows := (moreTo (common l) t (ows l) s1 k).map nvs) rfl (by exact ((Hown.out.low Hb6.out).low Hb7.out).alloc _) (g := w7.heap.size) (cells := #[.int .i64 k]) rfl (heap_alloc_new w7 _) rfl (by simp [Value.oneCell']) (by rw [List.length_map]; omega) (by rw [List.length_map]; unfold maxLen; omega) (by simp; omega) ?_
                             intro v8 w8 hown8 hup8 _
                             have Hown8 := Lib.hid hown8
                             have Hup8 := Lib.hid hup8
                             clear hown8 hup8))
                        go_roundw
                        case rel =>
                          refine ⟨k + 1, by omega, by go_num, by rw [Hsn.out, if_pos (by simp), List.map_append]; exact Hown8.out, ?_⟩
                          exact (Hbel.out.trans ((Hb6.out.trans (Hb7.out.mono hz6)).mono (by omega))).trans (((below_box w7 _).mono (by omega)).trans (Hup8.out.toLow (by simp; omega) (fun i hi => ((((Hown.out.low Hb6.out).low Hb7.out).alloc (.cells #[.int .i64 (k : Int)] 3)).lt i hi).1)))
                        case measure => simp [intOf]; omega
                  · have hkk : k = l.length := by omega
                    have hM : moreTo (common l) t (ows l) s1 k = more (common l) t (ows l) s1 := by rw [hkk]; unfold moreTo more; rw [ows_len]
                    rw [hM] at Hown hmt
                    obtain ⟨M, hMd⟩ : ∃ M, more (common l) t (ows l) s1 = M := ⟨_, rfl⟩
                    rw [hMd] at Hown hmt
                    have HMd := Lib.hid hMd
                    have hMlt : ∀ i ∈ M, i < l.length := fun i hi => by
                      have := (more_lt (c := common l) (tol := t) (ow := ows l) (s := s1) (by rw [hMd]; exact hi)).1
                      rwa [ows_len] at this
                    have HMlt := Lib.hid hMlt
                    obtain ⟨Am, cm, hvm, hcm, hmm⟩ := Hown.out.form
                    rw [List.length_map] at hvm hcm
                    subst hvm
                    unfold maxLen at hmm
                    clear hM hMd hMlt
                    by_cases hMe : M = []
                    · subst hMe
                      have hz0 : (((0 : Nat) : Int) == 0) = true := by decide
                      have Hfin := Lib.hid (final_of (l := l) (tol := t) (dep := d) (r := r) (.inl ⟨by rw [Hs1.out]; exact HMd.out, Hdr.out⟩))
                      go_wp2_with fail
                      go_meet
                      exact ⟨s1, Hst4.out, fun _ => Hs1.out.symm.trans Hfin.out⟩
                    · have hz0 : ((M.length : Int) == 0) = false := by
                        have := List.length_pos_iff.2 hMe
                        rw [beq_eq_false_iff_ne]; omega
                      have HMe := Lib.hid hMe
                      clear hMe
                      obtain ⟨wq, rfl⟩ : ∃ wq : World, wq = wr := ⟨_, rfl⟩
                      go_wp2_with fail
                      go_loopw [19] (fun i w' => ∃ k : Nat, k ≤ M.length ∧ i = .int .i64 k ∧ RfSt w w' (.slice As S.length cs) (.slice An S.length cn) gt gc S (common l) l.length (fun i => decide (i ∈ M.take k) || s1.1 i, fun y => (M.take k).any (fun i => hasSy ((ows l).getD i []) y) || s1.2 y) ∧ Own w' w.heap.size 3 1 (.slice Am M.length cm) (M.map nvs)) (fun i _ => M.length - (intOf i).toNat)
                      case atStart => exact ⟨0, Nat.zero_le _, rfl, Hst4.out.cong (fun _ _ => by simp) (fun _ _ => by simp), Hown.out.base_le hz3⟩
                      case round =>
                        clear Hst4 Hown Hbel
                        obtain ⟨k3, hk3, rfl, hst5, hown5⟩ := hrel
                        have hz5 := hst5.bel.size
                        have Hst5 := Lib.hid hst5
                        have HxM := Lib.hid hown5
                        clear hst5 hown5
                        by_cases hlt3 : k3 < M.length
                        · obtain ⟨gm, hgm, _, hlm, mc, _⟩ := HxM.out.row_at (k := k3) (by simpa using hlt3) (by omega)
                          subst hgm
                          have mc0 := mc 0 (by omega)
                          simp only [List.getElem_map, nvs, List.getElem_cons_zero, Nat.mul_one, Nat.add_zero] at mc0
                          clear mc
                          have hqn := HMlt.out _ (List.getElem_mem hlt3)
                          obtain ⟨q, hqe⟩ : ∃ q, M[k3] = q := ⟨_, rfl⟩
                          rw [hqe] at mc0 hqn
                          have Hqe := Lib.hid hqe
                          clear hqe
                          obtain ⟨tc0, tf0⟩ := Hst5.out.atC hqn
                          obtain ⟨hgc5, hlt5⟩ := Hst5.out.hc.lt gc rfl
                          have hgm : gm ≠ gc := fun e => Hst5.out.hc.ne_own HxM.out (by decide) gc rfl (by rw [← e]; rfl)
                          obtain ⟨ab, off, o, v, tt, aa, rfl, hb, c0, c1, c2, c3, c4, c5, c6, hrd⟩ := (Hr.out.low Hst5.out.bel hB).en_at hqn
                          obtain ⟨A1, A2, A3, n1, n2, n3, cc1, cc2, cc3, rfl, rfl, rfl⟩ := hrd.forms
                          have hab : ab ≠ gc := by omega
                          have hnf := few_nodes Hf.out l[q] (List.getElem_mem hqn)
                          have hlo := own_len l[q]
                          have HmemO := Lib.hid (Hmem.out l[q] (List.getElem_mem hqn))
                          have Hrd := Lib.hid hrd
                          clear hrd c0 c1 c2
                          have how : (ows l).getD q [] = own l[q] := ows_get l hqn
                          generalize hO : own l[q] = O at HmemO hlo how
                          have HO := Lib.hid hO
                          have How := Lib.hid how
                          clear hO how
                          go_upto_region 33 with (go_at_call 16
                                                  refine (symbols_any _ l[q].form o _ _ _ _ [] B w.heap.size _ (Nat.le_refl _) (Hrd.out.low (((Upd.refl wr (fun i => i = gc)).setCell ⟨gc, q, none⟩ (.bool true) (.inl rfl)).toLow (B := w.heap.size) (by omega) (fun i e => by omega)) hB) hB (by simp; omega) (Own.nil _ _ _ _) (by simp; omega)).mono ?_
                                                  rintro e w6 ⟨vo, rfl, hown6, hup6, _⟩
                                                  have Hown6 := Lib.hid hown6
                                                  have Hup6 := Lib.hid hup6
                                                  clear hown6 hup6)
                          have hst6 := ((Hst5.out.setC q).low (Hup6.out.toLow (Nat.le_refl _) (by simp [Value.ownBlock])))
                          have HstM := Lib.hid hst6
                          have hxm6 := (HxM.out.upd ((Upd.refl wr (fun i => i = gc)).setCell ⟨gc, q, none⟩ (.bool true) (.inl rfl)) (fun i hi e => Hst5.out.hc.ne_own HxM.out (by decide) gc rfl (by rw [hi, e]))).low (Hup6.out.toLow (Nat.le_refl _) (by simp [Value.ownBlock]))
                          have hown7 : Own w6 w.heap.size 31 3 vo (O.map svs) := by rw [← HO.out]; exact Hown6.out
                          clear HxM
                          have HxM := Lib.hid hxm6
                          obtain ⟨Ao, co, hvo, hco, hmo⟩ := hown7.form
                          rw [List.length_map] at hvo hco
                          subst hvo
                          have HownM := Lib.hid hown7
                          unfold maxLen at hmo
                          clear hst6 hown7 hxm6 Hown6 Hup6 tc0 tf0 c3 c4 c5 c6 mc0
                          go_wp2_with fail
                          obtain ⟨wo5, rfl⟩ : ∃ wo5 : World, wo5 = wr := ⟨_, rfl⟩
                          go_loopw [21] (fun i w' => ∃ k2 : Nat, k2 ≤ O.length ∧ i = .int .i64 k2 ∧ RfSt w w' (.slice As S.length cs) (.slice An S.length cn) gt gc S (common l) l.length ((fun i => decide (i = q) || (decide (i ∈ M.take k3) || s1.1 i)), fun y => hasSy (O.take k2) y || (fun y => (M.take k3).any (fun i => hasSy ((ows l).getD i []) y) || s1.2 y) y) ∧ Own w' w.heap.size 31 3 (.slice Ao O.length co) (O.map svs) ∧ Own w' w.heap.size 3 1 (.slice (some ⟨gm, 0, none⟩) M.length cm) (M.map nvs)) (fun i _ => O.length - (intOf i).toNat)
                          case atStart => exact ⟨0, Nat.zero_le _, rfl, HstM.out.cong (fun _ _ => rfl) (fun _ _ => by simp [hasSy]), HownM.out, HxM.out⟩
                          case round =>
                            clear HstM HownM HxM
                            obtain ⟨k2, hk2, rfl, hst2, hown2, hxm⟩ := hrel
                            have HxM := Lib.hid hxm
                            clear hxm
                            have hzz := hst2.bel.size
                            have Hst2 := Lib.hid hst2
                            have Hown2 := Lib.hid hown2
                            clear hst2 hown2
                            by_cases hlt2 : k2 < O.length
                            · obtain ⟨go, rfl, hbo, hgo, e0, e1, e2⟩ := Hown2.out.sy_at hlt2
                              obtain ⟨j, hj, hidx, hSj⟩ := idxSy_mem (HmemO.out _ (List.getElem_mem hlt2))
                              have Hidx := Lib.hid hidx
                              have HSj := Lib.hid hSj
                              clear hidx hSj
                              go_wp2_with (go_at_call 24
                                           refine (at_any S O[k2] _ _ _ (own_rd_sy Hst2.out.hs (by omega)) (Nat.le_refl _)).mono ?_
                                           rintro e w4 ⟨rfl, hb4⟩
                                           rw [Hidx.out]
                                           obtain ⟨tc0, tf0⟩ := (Hst2.out.low hb4).atT hj
                                           have hlt4 := ((Hst2.out.low hb4).ht.lt gt rfl).2
                                           have Hb4 := Lib.hid hb4
                                           clear hb4)
                              go_roundw
                              case rel =>
                                have h1 := (Hst2.out.low Hb4.out).setT hj Hnd.out
                                refine ⟨k2 + 1, by omega, by go_num, h1.cong (fun _ _ => rfl) (fun y _ => ?_), ?_, ?_⟩
                                · simp only []
                                  rw [hasSy_take_succ hlt2, HSj.out, Bool.or_assoc]
                                · exact (Hown2.out.low Hb4.out).upd ((Upd.refl w4 (fun i => i = gt)).setCell _ _ (.inl rfl)) (fun i hi e => (Hst2.out.low Hb4.out).ht.ne_own (Hown2.out.low Hb4.out) (by decide) gt rfl (by rw [hi, e]))
                                · exact (HxM.out.low Hb4.out).upd ((Upd.refl w4 (fun i => i = gt)).setCell _ _ (.inl rfl)) (fun i hi e => (Hst2.out.low Hb4.out).ht.ne_own (HxM.out.low Hb4.out) (by decide) gt rfl (by rw [hi, e]))
                              case measure => simp [intOf]; omega
                            · have hkk : k2 = O.length := by omega
                              subst hkk
                              have hstE := Hst2.out.cong (s' := ((fun i => decide (i = q) || (decide (i ∈ M.take k3) || s1.1 i)), fun y => hasSy O y || (fun y => (M.take k3).any (fun i => hasSy ((ows l).getD i []) y) || s1.2 y) y)) (fun _ _ => rfl) (fun y _ => by rw [List.take_length])
                              have HstE := Lib.hid hstE
                              clear hstE Hst2
                              go_wp2_with fail
                              go_roundw
                              case rel =>
                                refine ⟨k3 + 1, by omega, by go_num, HstE.out.cong (fun i _ => ?_) (fun y _ => ?_), HxM.out⟩
                                · simp only []
                                  rw [List.take_succ_eq_append_getElem hlt3, Hqe.out, Bool.eq_iff_iff]
                                  simp only [Bool.or_eq_true, decide_eq_true_eq, List.mem_append, List.mem_singleton]
                                  constructor
                                  · rintro ((h | h) | h)
                                    · exact .inr (.inl h)
                                    · exact .inl h
                                    · exact .inr (.inr h)
                                  · rintro (h | h | h)
                                    · exact .inl (.inr h)
                                    · exact .inl (.inl h)
                                    · exact .inr h
                                · have how2 := How.out
                                  rw [List.getD_eq_getElem?_getD] at how2
                                  simp only [List.getD_eq_getElem?_getD]
                                  rw [List.take_succ_eq_append_getElem hlt3, Hqe.out, List.any_append]
                                  simp only [List.any_cons, List.any_nil, Bool.or_false]
                                  rw [how2, Bool.eq_iff_iff]
                                  simp only [Bool.or_eq_true]
                                  constructor
                                  · rintro ((h | h) | h)
                                    · exact .inr (.inl h)
                                    · exact .inl h
                                    · exact .inr (.inr h)
                                  · rintro (h | h | h)
                                    · exact .inl (.inr h)
                                    · exact .inl (.inl h)
                                    · exact .inr h
                              case measure => simp [intOf]; omega
                        · have hkk : k3 = M.length := by omega
                          subst hkk
                          have hnx : rnds (common l) t (ows l) (r + 1) (start l) = (fun i => decide (i ∈ M) || s1.1 i, fun y => M.any (fun i => hasSy ((ows l).getD i []) y) || s1.2 y) := by
                            show rnd (common l) t (ows l) (rnds (common l) t (ows l) r (start l)) = _
                            rw [Hs1.out]
                            unfold rnd
                            rw [HMd.out]
                          have hmr : r + 1 ≤ many l.length (rnds (common l) t (ows l) (r + 1) (start l)).1 := by
                            show r + 1 ≤ many l.length (rnd (common l) t (ows l) (rnds (common l) t (ows l) r (start l))).1
                            rw [Hs1.out]
                            have h1 := many_rnd (c := common l) (tol := t) (ow := ows l) (s := s1) (by rw [HMd.out]; exact HMe.out)
                            rw [ows_len] at h1
                            have h2 := Hrm.out
                            omega
                          have Hnx := Lib.hid hnx
                          have Hmr := Lib.hid hmr
                          clear hnx hmr
                          rw [List.take_length] at Hst5
                          go_wp2_with fail
                          go_roundw
                          case rel =>
                           exact ⟨r + 1, by go_num, by rw [Hnx.out]; exact Hst5.out, fun h => (by cases h), Hmr.out, fun h => Hdr.out h⟩
                          case measure => simp [intOf]; omega
        · obtain ⟨s2, hst, hfin⟩ := hcut
          have hz3 := hst.bel.size
          have Hst := Lib.hid hst
          have hpk : picked l t d = (List.range l.length).filter fun i => (s2.1 i || !gB) || decide (t = 0) := by
            unfold picked
            refine List.filter_congr fun i _ => ?_
            cases hal : allIn l t with
            | true =>
              have := Hal.out
              rw [hal] at this
              rw [Bool.true_or, Bool.or_assoc, Bool.or_comm (!gB), ← this, Bool.or_true]
            | false =>
              have := Hal.out
              rw [hal] at this
              rw [Bool.false_or, hfin hal, Bool.or_assoc, Bool.or_comm (!gB), ← this, Bool.or_false]
          have Hpk := Lib.hid hpk
          clear hst hfin hpk
          obtain ⟨wo, rfl⟩ : ∃ wo : World, wo = wc := ⟨_, rfl⟩
          go_wp2_with fail
          go_loopw [22, 23] (fun u i w' => ∃ k : Nat, k ≤ l.length ∧ i = .int .i64 k ∧ Own w' wo.heap.size 3 1 u (((List.range k).filter fun i => (s2.1 i || !gB) || decide (t = 0)).map nvs) ∧ Below wo.heap.size wo w') (fun _ i _ => l.length - (intOf i).toNat)
          case atStart => exact ⟨0, Nat.zero_le _, rfl, Own.nil _ _ _ _, Below.refl _ _⟩
          case round =>
            obtain ⟨k, hk, rfl, hown, hbel⟩ := hrel
            have hz4 := hbel.size
            have hfl : ((List.range k).filter fun i => (s2.1 i || !gB) || decide (t = 0)).length ≤ k := by have := List.length_filter_le (fun i => (s2.1 i || !gB) || decide (t = 0)) (List.range k); rw [List.length_range] at this; exact this
            have Hown := Lib.hid hown
            have Hbel := Lib.hid hbel
            clear hown hbel
            by_cases hlt : k < l.length
            · obtain ⟨tc0, tf0⟩ := (Hst.out.low Hbel.out).atC hlt
              have hr : (List.range (k + 1)).filter (fun i => (s2.1 i || !gB) || decide (t = 0)) = (List.range k).filter (fun i => (s2.1 i || !gB) || decide (t = 0)) ++ if (s2.1 k || !gB) || decide (t = 0) then [k] else [] := by
                rw [List.range_succ, List.filter_append]
                congr 1
                by_cases h : ((s2.1 k || !gB) || decide (t = 0)) = true
                · rw [if_pos h]; simp only [List.filter_cons, List.filter_nil, h, if_true]
                · rw [if_neg h]; simp only [List.filter_cons, List.filter_nil, h, if_false]; rfl
              have Hr1 := Lib.hid hr
              clear hr
              go_upto_region 41 with fail
              go_cut [186] from 175 to 185 (fun b w' => b = .bool ((s2.1 k || !gB) || decide (t = 0)) ∧ w' = wr)
              · cases hch : s2.1 k with
                | true =>
                  rw [hch] at tc0
                  have Hch := Lib.hid hch
                  clear hch
                  go_wp2_with fail
                  go_meet
                  exact ⟨by rw [Hch.out]; rfl, rfl⟩
                | false =>
                  rw [hch] at tc0
                  have Hch := Lib.hid hch
                  clear hch
                  cases gB with
                  | false =>
                    go_wp2_with fail
                    go_meet
                    exact ⟨by rw [Hch.out]; rfl, rfl⟩
                  | true =>
                    by_cases h0 : t = 0
                    · have ht : ((t : Int) == 0) = true := by rw [h0]; rfl
                      have Hd0 := Lib.hid (decide_eq_true h0)
                      clear h0
                      go_wp2_with fail
                      go_meet
                      exact ⟨by rw [Hch.out, Hd0.out]; rfl, rfl⟩
                    · have ht : ((t : Int) == 0) = false := by rw [beq_eq_false_iff_ne]; omega
                      have Hd0 := Lib.hid (decide_eq_false h0)
                      clear h0
                      go_wp2_with fail
                      go_meet
                      exact ⟨by rw [Hch.out, Hd0.out]; rfl, rfl⟩
              obtain ⟨rfl, hwc⟩ := hcut
              rw [hwc]
              clear hwc tc0 tf0
              generalize ((s2.1 k || !gB) || decide (t = 0)) = bb at Hr1 ⊢
              cases bb with
              | true =>
                go_wp2_with (at_builtin
                             refine wpList_push _ rfl (.tmp 187) (.tmp 189) _ rfl intT (base := wo.heap.size) (rows := ((List.range k).filter fun i => (s2.1 i || !gB) || decide (t = 0)).map nvs) rfl (by exact Hown.out.alloc _) (g := wr.heap.size) (cells := #[.int .i64 k]) rfl (heap_alloc_new wr _) rfl (by simp [Value.oneCell']) (by rw [List.length_map]; omega) (by rw [List.length_map]; unfold maxLen; omega) (by simp; omega) ?_
                             intro v4 w4 hown4 hup4 _
                             have Hown4 := Lib.hid hown4
                             have Hup4 := Lib.hid hup4
                             clear hown4 hup4)
                go_roundw
                case rel =>
                  refine ⟨k + 1, by omega, by go_num, by rw [Hr1.out, List.map_append]; exact Hown4.out, ?_⟩
                  exact (Hbel.out.trans ((below_box wr _).mono (by omega))).trans (Hup4.out.toLow (by simp; omega) (fun i hi => ((Hown.out.alloc (.cells #[.int .i64 (k : Int)] 3)).lt i hi).1))
                case measure => simp [intOf]; omega
              | false =>
                go_wp2_with fail
                go_roundw
                case rel => exact ⟨k + 1, by omega, by go_num, by rw [Hr1.out]; simpa using Hown.out, Hbel.out⟩
                case measure => simp [intOf]; omega
            · have hkk : k = l.length := by omega
              subst hkk
              go_wp2_with fail
              go_ret2
              refine ⟨_, rfl, ?_, Hst.out.bel.trans (Hbel.out.mono hz3)⟩
              rw [Hpk.out]
              exact Hown.out.base_le hz3
  · have hbad : (tol < 0 ∨ 1000 < tol) ∨ (0 < tol ∧ tol < 10) ∨ dep < 0 := by
      unfold argsOk at hok
      simp only [Bool.and_eq_true, Bool.or_eq_true, decide_eq_true_eq] at hok
      omega
    have hans : ChooseRes w l tol dep (.returned (.tuple #[.slice none 0 0, .int .i64 2])) w := by
      refine ⟨_, by unfold errno; rw [if_neg hok], ?_, Below.refl _ _⟩
      unfold answer
      rw [if_neg hok]
      exact Own.nil _ _ _ _
    clear hok hi0 hz0 hz1 hz2
    go_enter Try.func14, Try.ntmps14
    by_cases h1 : tol < 0
    · go_wp2_with fail
      go_ret2
      simpa using hans
    · by_cases h2 : 1000 < tol
      · go_wp2_with fail
        go_ret2
        simpa using hans
      · by_cases h3 : 0 < tol
        · by_cases h4 : tol < 10
          · go_wp2_with fail
            go_ret2
            simpa using hans
          · have h5 : dep < 0 := by omega
            go_wp2_with fail
            go_ret2
            simpa using hans
        · have h5 : dep < 0 := by omega
          go_wp2_with fail
          go_ret2
          simpa using hans

end Go.Proofs.Ytikgjappablbhaa
