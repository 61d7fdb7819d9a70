/-
  Walk over sine.Common.
-/
import Derived.Test.YtikgjappablbhaaSineB
import Derived.Deep.DeepCutAuto
namespace Go.Proofs.Ytikgjappablbhaa
open Go.RowKit

/-- Where a symbol stands, as the map says it. -/
def idxF (S : List Sy) (s : Sy) : Option Value := (S.findIdx? (fun x => decide (x = s))).map fun i => .int .i64 (i : Int)

theorem idxF_none {S : List Sy} {s : Sy} (h : s ∉ S) : idxF S s = none := by
  unfold idxF
  have : S.findIdx? (fun x => decide (x = s)) = none := by
    rw [List.findIdx?_eq_none_iff]
    intro x hx
    have : x ≠ s := fun e => h (by rw [← e]; exact hx)
    simpa using this
  rw [this]; rfl
theorem idxF_some {S : List Sy} (hnd : S.Nodup) {j : Nat} (hj : j < S.length) : idxF S S[j] = some (.int .i64 j) := by
  unfold idxF
  have : S.findIdx? (fun x => decide (x = S[j])) = some j := by
    rw [List.findIdx?_eq_some_iff_getElem]
    refine ⟨hj, by simp, fun i hi => ?_⟩
    simp only [decide_eq_true_eq]
    intro e
    have := (List.getElem_inj hnd).1 e
    omega
  rw [this]; rfl
theorem idxF_snoc {S : List Sy} {s : Sy} (h : s ∉ S) (y : Sy) : idxF (S ++ [s]) y = if y = s then some (.int .i64 S.length) else idxF S y := by
  unfold idxF
  rw [List.findIdx?_append]
  by_cases hy : y = s
  · subst hy
    have : S.findIdx? (fun x => decide (x = y)) = none := by
      rw [List.findIdx?_eq_none_iff]
      intro x hx
      have : x ≠ y := fun e => h (by rw [← e]; exact hx)
      simpa using this
    rw [this]
    simp
  · have hne : ¬ s = y := fun e => hy e.symm
    simp only [hy, if_false]
    cases S.findIdx? (fun x => decide (x = y)) with
    | some i => simp
    | none => simp [hne]

theorem part_new {l : List En} {i k : Nat} {s : Sy} (h1 : s ∉ allSy (l.take i)) (h2 : ∀ x, l[i]? = some x → s ∉ (own x).take k) : part l i k s = 0 := by
  unfold part
  rw [common_zero h1]
  cases hx : l[i]? with
  | none => rfl
  | some x =>
    rw [inPart_some, (hasSy_not _ _).2 (h2 x hx)]
    simp [b2n]

/-- What Common holds between two symbols. -/
structure ComSt (w : World) (base g : Nat) (v n : Value) (l : List En) (i k : Nat) (S : List Sy) : Prop where
  hv : Own w base 31 3 v (S.map svs)
  hn : Own w base 3 1 n ((S.map (part l i k)).map nvs)
  hm : MapF w g symV (idxF S)
  hg : base ≤ g
theorem ComSt.low {w w' : World} {base g : Nat} {v n : Value} {l : List En} {i k : Nat} {S : List Sy} (h : ComSt w base g v n l i k S) (hb : Below w.heap.size w w') : ComSt w' base g v n l i k S :=
  ⟨h.hv.low hb, h.hn.low hb, h.hm.low hb, h.hg⟩
theorem zeroI (w : World) : (zeroValue 3).run Try.prog w = .ok (.int .i64 0) w := by kernel_rfl

/-- What holds behind the first half of a round over a symbol. -/
def ComMid (w : World) (base g xb : Nat) (l : List En) (i k : Nat) (S : List Sy) (s : Sy) (xs : Array Value) (O : List Sy) (A : Value) (v n j : Value) (w' : World) : Prop :=
  ComSt w' base g v n l i k (addSy S s) ∧ Below base w w' ∧ w'.heap[xb]? = some (.cells xs 43 (0, 0)) ∧ Own w' base 31 3 A (O.map svs) ∧ (∀ i, v.ownBlock = some i → A.ownBlock ≠ some i) ∧ ∃ j' : Nat, ∃ hj : j' < (addSy S s).length, j = .int .i64 j' ∧ (addSy S s)[j'] = s

set_option maxHeartbeats 2000000 in
theorem progCommon_any (l : List En) (v : Value) (B : Nat) (w : World) (hr : Rd w B (.sl 7 (l.map encEn)) v) (hB : B ≤ w.heap.size) (hf : Few l) :
    Calls Try.prog 10 #[v] w (CommonRes w l) := by
  obtain ⟨A, c, rfl, hc, hn, hm⟩ := hr.sl_form
  rw [List.length_map] at hc hn hr ⊢
  have Hr := Lib.hid hr
  have Hfw := Lib.hid hf
  have hl3 := hf.1
  clear hr hf
  unfold maxLen at hm
  have hmm := @run_makeMap Try.prog
  go_enter Try.func10, Try.ntmps10
  go_wp2_with fail
  go_loopw [2, 3, 14] (fun u n i wr => ∃ k : Nat, k ≤ l.length ∧ i = .int .i64 k ∧ ComSt wr w.heap.size w.heap.size u n l k 0 (allSy (l.take k)) ∧ Below w.heap.size w wr) (fun _ _ i _ => l.length - (intOf i).toNat)
  case atStart => exact ⟨0, Nat.zero_le _, rfl, ⟨Own.nil _ _ _ _, Own.nil _ _ _ _, MapF.made w symV, Nat.le_refl _⟩, below_box w _⟩
  case round =>
    obtain ⟨k, hk, rfl, hst, hbel⟩ := hrel
    have hz := hbel.size
    have hlg := hst.hm.lt
    have hal := allSy_take_len Hfw.out k
    have Hst := Lib.hid hst
    have Hbel := Lib.hid hbel
    clear hst hbel
    by_cases hlt : k < l.length
    · obtain ⟨ab, off, o, vv, tt, aa, rfl, hb, c0, c1, c2, c3, c4, c5, c6, hrd⟩ := (Hr.out.low Hbel.out hB).en_at hlt
      obtain ⟨A1, A2, A3, n1, n2, n3, cc1, cc2, cc3, rfl, rfl, rfl⟩ := hrd.forms
      have hnf := few_nodes Hfw.out l[k] (List.getElem_mem hlt)
      have Hrd := Lib.hid hrd
      have hlo := own_len l[k]
      obtain ⟨O, hO⟩ : ∃ O, own l[k] = O := ⟨_, rfl⟩
      rw [hO] at hlo
      have HO := Lib.hid hO
      clear hrd hO
      go_wp2_with (go_at_call 21
                   refine (progSymbols_any _ _ _ _ _ _ _ (Hrd.out.low (below_box wr _) (by omega)) (by simp; omega) (by omega)).mono ?_
                   rintro e w1 ⟨vo, rfl, hown1, hb1⟩
                   rw [show symsFm [] l[k].form = O from HO.out] at hown1
                   obtain ⟨Ao, co, hvo, hco, hmo⟩ := hown1.form
                   rw [List.length_map] at hvo hco
                   subst hvo)
      obtain ⟨hc1, hb2, hz1⟩ := box_after hb1
      have hbx : w1.heap[wr.heap.size]? = some (.cells #[.bool l[k].cnf, .string l[k].name, .string l[k].role, .int .i64 o, .slice A1 n1 cc1, .slice A2 n2 cc2, .slice A3 n3 cc3] 43 (0, 0)) := (hb1.block _ (by simp)).trans (heap_alloc_new wr _)
      unfold maxLen at hmo
      have hOw : Own w1 w.heap.size 31 3 (.slice Ao O.length co) (O.map svs) := hown1.base_le (by simp; omega)
      have hst1 := Hst.out.low hb2
      have hbel1 := Hbel.out.trans (hb2.mono hz)
      have hne0 : ∀ i, u2.ownBlock = some i → (Value.slice Ao O.length co).ownBlock ≠ some i := fun i hi h => by
        have h1 := (Hst.out.hv.lt i hi).2
        have h2 := (hown1.lt i h).1
        simp at h2
        omega
      have Hne0 := Lib.hid hne0
      have Hst1 := Lib.hid hst1
      have HOw := Lib.hid hOw
      have Hb1 := Lib.hid hbel1
      have Hbx := Lib.hid hbx
      clear hst1 hOw hbel1 hbx hb1 hown1 hc1 hb2 hne0
      obtain ⟨wp, rfl⟩ : ∃ wp : World, wp = w1 := ⟨_, rfl⟩
      obtain ⟨wo, rfl⟩ : ∃ wo : World, wo = wr := ⟨_, rfl⟩
      go_loopw [2, 3, 22] (fun u n i w' => ∃ k2 : Nat, k2 ≤ O.length ∧ i = .int .i64 k2 ∧ ComSt w' w.heap.size w.heap.size u n l k k2 (addAll (allSy (l.take k)) (O.take k2)) ∧ Below w.heap.size w w' ∧
        w'.heap[wo.heap.size]? = some (.cells #[.bool l[k].cnf, .string l[k].name, .string l[k].role, .int .i64 o, .slice A1 n1 cc1, .slice A2 n2 cc2, .slice A3 n3 cc3] 43 (0, 0)) ∧
        Own w' w.heap.size 31 3 (.slice Ao O.length co) (O.map svs) ∧ (∀ i, u.ownBlock = some i → (Value.slice Ao O.length co).ownBlock ≠ some i)) (fun _ _ i _ => O.length - (intOf i).toNat)
      case atStart => exact ⟨0, Nat.zero_le _, rfl, Hst1.out, Hb1.out, Hbx.out, HOw.out, Hne0.out⟩
      case round =>
        clear Hst1 Hb1 Hbx HOw Hne0
        obtain ⟨k2, hk2, rfl, hst2, hbel2, hbx2, hOw2, hne2⟩ := hrel
        have hz2 := hbel2.size
        have hlg2 := hst2.hm.lt
        have hlx := ltOf hbx2
        have Hst2 := Lib.hid hst2
        have Hb2 := Lib.hid hbel2
        have Hbx2 := Lib.hid hbx2
        have HOw2 := Lib.hid hOw2
        have Hne2 := Lib.hid hne2
        clear hst2 hbel2 hbx2 hOw2 hne2
        by_cases hlt2 : k2 < O.length
        · obtain ⟨go, rfl, hbo, hgo, e0, e1, e2⟩ := HOw2.out.sy_at hlt2
          generalize hS : addAll (allSy (l.take k)) (O.take k2) = S at Hst2
          have HS := Lib.hid hS
          have hSlen : S.length ≤ 900000 + 3000 := by
            have h1 := addAll_len (allSy (l.take k)) (O.take k2)
            rw [hS] at h1
            have h2 : (O.take k2).length ≤ O.length := List.length_take_le' _ _
            omega
          have hSnd : S.Nodup := by rw [← hS]; exact addAll_nodup (allSy_nodup _) _
          have hlk := MapF.lookup_ok (Hst2.out.hm.alloc (Obj.cells #[.string O[k2].1, .int .i64 O[k2].2.1, .bool O[k2].2.2] 31)) symK Try.underlying52 (zeroI _) O[k2]
          have HSnd := Lib.hid hSnd
          clear hS hSnd
          unfold symV at hlk
          by_cases hmem : O[k2] ∈ S
          · obtain ⟨j, hj, hSj⟩ := List.getElem_of_mem hmem
            have hidx : idxF S O[k2] = some (.int .i64 j) := by rw [← hSj]; exact idxF_some HSnd.out hj
            rw [hidx] at hlk
            simp only [Option.getD_some, Option.isSome_some] at hlk
            have HSj := Lib.hid hSj
            clear hidx hSj
            go_upto_if 33 with (fail)
            go_cut [2, 3, 9] (fun u n j w' => ComMid wr w.heap.size w.heap.size wo.heap.size l k k2 S O[k2] #[.bool l[k].cnf, .string l[k].name, .string l[k].role, .int .i64 o, .slice A1 n1 cc1, .slice A2 n2 cc2, .slice A3 n3 cc3] O (.slice (some ⟨go, 0, none⟩) O.length co) u n j w')
            case first =>
              go_wp2_with fail
              go_meet
              have hadd : addSy S O[k2] = S := addSy_mem (by rw [← HSj.out]; exact List.getElem_mem hj)
              exact ⟨by rw [hadd]; exact Hst2.out.low (below_box wr _), (below_box wr _).mono hz2, (Below.heap_alloc wr _ _ hlx).trans Hbx2.out, HOw2.out.alloc _, Hne2.out, j, by rw [hadd]; exact hj, rfl, by simp only [hadd]; exact HSj.out⟩
            case rest =>
              obtain ⟨hst3, hbl3, hbx3, hOw3, hne3, j', hj', rfl, hjs⟩ := hcut
              have hz3 := hbl3.size
              have hxc := fun o => cell_of_row wc wo.heap.size o _ _ _ hbx3
              have HSt3 := Lib.hid hst3
              have Hbl3 := Lib.hid hbl3
              have Hbx3 := Lib.hid hbx3
              have HOw3 := Lib.hid hOw3
              have Hne3 := Lib.hid hne3
              have Hjs := Lib.hid hjs
              clear hst3 hbl3 hbx3 hOw3 hne3 hjs hlk
              have hS' : addAll (allSy (l.take k)) (O.take (k2 + 1)) = addSy S O[k2] := by rw [List.take_succ_eq_append_getElem hlt2, addAll_snoc, HS.out]
              have HS' := Lib.hid hS'
              clear hS'
              by_cases hg : isGoal l[k].role = true
              · go_wp2_with (go_at_call 22; refine (goal_any _ _ _ _ _ _ _ _).mono ?_; rintro e w5 ⟨rfl, hb5⟩)
                go_roundw
                case rel =>
                  have hp : part l k (k2 + 1) = part l k k2 := funext fun s => by rw [part_goal l k hlt _ hg, part_goal l k hlt _ hg]
                  have h5 := HSt3.out.low hb5
                  exact ⟨k2 + 1, by omega, by go_num, by rw [HS'.out]; exact ⟨h5.hv, by rw [hp]; exact h5.hn, h5.hm, h5.hg⟩, Hb2.out.trans ((Hbl3.out).trans (hb5.mono (by omega))), (hb5.block _ (ltOf Hbx3.out)).trans Hbx3.out, HOw3.out.low hb5, Hne3.out⟩
                case measure => simp [intOf]; omega
              · rw [Bool.not_eq_true] at hg
                obtain ⟨Ax, cx, hvx, hcx, hmx⟩ := HSt3.out.hn.form
                rw [List.length_map, List.length_map] at hvx hcx
                subst hvx
                have hlen3 := addSy_len S O[k2]
                have hpl := part_le l k k2 (addSy S O[k2])[j']
                go_wp2_with (go_at_call 22
                             refine (goal_any _ _ _ _ _ _ _ _).mono ?_
                             rintro e w5 ⟨rfl, hb5⟩
                             obtain ⟨gn, hgn, hbn, hln, cn, fn⟩ := (HSt3.out.hn.low hb5).row_at (k := j') (by simpa using hj') (by omega)
                             subst hgn
                             have cn0 := cn 0 (by omega)
                             have fn0 := fn 0 (by omega)
                             simp only [List.getElem_map, nvs, List.getElem_cons_zero, Nat.mul_one, Nat.add_zero] at cn0 fn0
                             clear cn fn)
                go_roundw
                case rel =>
                  have h5 := HSt3.out.low hb5
                  have hU : Upd w5 (w5.setCell ⟨gn, j', none⟩ (.int .i64 ((part l k k2 (addSy S O[k2])[j'] : Nat) + 1 : Int))) (fun i => i = gn) := (Upd.refl w5 _).setCell _ _ (.inl rfl)
                  have hnst : Own (w5.setCell ⟨gn, j', none⟩ (.int .i64 ((part l k k2 (addSy S O[k2])[j'] : Nat) + 1 : Int))) w.heap.size 3 1 (.slice (some ⟨gn, 0, none⟩) (addSy S O[k2]).length cx) (((addSy S O[k2]).map (part l k (k2 + 1))).map nvs) := by
                    have h1 := h5.hn
                    rw [nvs_map] at h1
                    have h2 := h1.set1 (j := j') (.int .i64 ((part l k k2 (addSy S O[k2])[j'] : Nat) + 1 : Int))
                    have h3 : ((addSy S O[k2]).map (part l k (k2 + 1))).map nvs = ((((addSy S O[k2]).map (part l k k2)).map fun n : Nat => Value.int .i64 (n : Int)).set j' (.int .i64 ((part l k k2 (addSy S O[k2])[j'] : Nat) + 1 : Int))).map fun u => [u] := by
                      have hsp := set_part l k k2 hlt HO.out hlt2 hg (addSy_nodup HSnd.out O[k2]) hj' Hjs.out
                      have hms := List.map_set (f := fun n : Nat => Value.int .i64 (n : Int)) (l := (addSy S O[k2]).map (part l k k2)) (i := j') (a := part l k k2 (addSy S O[k2])[j'] + 1)
                      rw [hsp] at hms
                      rw [nvs_map, hms]
                      rfl
                    rw [h3]
                    exact h2
                  have hmst : ¬ w.heap.size = gn := fun e => by
                    obtain ⟨es, ck, kv, hg0, _⟩ := h5.hm
                    exact h5.hn.ne_map hg0 (by rw [e]; rfl)
                  refine ⟨k2 + 1, by omega, by go_num, by rw [HS'.out]; exact ⟨h5.hv.upd hU (fun i hi e => h5.hn.ne_own h5.hv (by decide) gn rfl (by rw [hi, e])), hnst, h5.hm.upd hU hmst, h5.hg⟩, ?_, ?_, ?_, Hne3.out⟩
                  · exact (Hb2.out.trans ((Hbl3.out).trans (hb5.mono (by omega)))).setCell hbn _
                  · refine (hU.block _ (ltOf ((hb5.block _ (ltOf Hbx3.out)).trans Hbx3.out)) (fun e => ?_)).trans ((hb5.block _ (ltOf Hbx3.out)).trans Hbx3.out)
                    exact h5.hn.ne_cells ((hb5.block _ (ltOf Hbx3.out)).trans Hbx3.out) (by decide) (by rw [e]; rfl)
                  · exact (HOw3.out.low hb5).upd hU (fun i hi e => h5.hn.ne_own (HOw3.out.low hb5) (by decide) gn rfl (by rw [hi, e]))
                case measure => simp [intOf]; omega
          · have hidx : idxF S O[k2] = none := idxF_none hmem
            rw [hidx] at hlk
            simp only [Option.getD_none, Option.isSome_none] at hlk
            have Hmem := Lib.hid hmem
            obtain ⟨Av, cv, hvv, hcv, hmv⟩ := Hst2.out.hv.form
            obtain ⟨An, cn, hvn, hcn, hmn⟩ := Hst2.out.hn.form
            rw [List.length_map] at hvv hcv
            rw [List.length_map, List.length_map] at hvn hcn
            subst hvv hvn
            clear hidx hmem
            go_upto_if 33 with (fail)
            go_cut [2, 3, 9] (fun u n j w' => ComMid wr w.heap.size w.heap.size wo.heap.size l k k2 S O[k2] #[.bool l[k].cnf, .string l[k].name, .string l[k].role, .int .i64 o, .slice A1 n1 cc1, .slice A2 n2 cc2, .slice A3 n3 cc3] O (.slice (some ⟨go, 0, none⟩) O.length co) u n j w')
            case first =>
              have hne1 : ∀ (v : Value) (rows : List (List Value)) (e : TypeId) (sz : Nat), Own wr w.heap.size e sz v rows → v.ownBlock ≠ some w.heap.size := fun v rows e sz h => by
                obtain ⟨es, ck, kv, hg0, _⟩ := Hst2.out.hm
                exact h.ne_map hg0
              have hpnew : part l k k2 O[k2] = 0 := by
                refine part_new (fun h => Hmem.out ?_) (fun x hx h => Hmem.out ?_)
                · rw [← HS.out, mem_addAll]; exact .inl h
                · rw [List.getElem?_eq_getElem hlt] at hx
                  injection hx with hx
                  rw [← hx, HO.out] at h
                  rw [← HS.out, mem_addAll]; exact .inr h
              have Hpnew := Lib.hid hpnew
              have Hne1 := Lib.hid hne1
              clear hpnew hne1
              go_wp2_with (first
                | (at_mapUpdate
                   refine wpList_mapStore rfl (.tmp 36) (.tmp 37) (.tmp 38) rfl symK Try.underlying52 rfl O[k2] rfl (.int .i64 S.length) rfl (by exact Hst2.out.hm.alloc _) ?_
                   intro w5 hm5 hu5
                   have hz5 := hu5.size
                   simp only [alloc_size] at hz5
                   have b5 : w5.heap[wr.heap.size]? = some (.cells #[.string O[k2].1, .int .i64 O[k2].2.1, .bool O[k2].2.2] 31 (0, 0)) := (hu5.block _ (by simp) (by omega)).trans (heap_alloc_new wr _)
                   have e5 := fun o => cell_of_row w5 wr.heap.size o _ _ _ b5
                   have hU5 : Upd wr w5 (fun i => i = w.heap.size) := ((Upd.refl wr _).alloc _).trans hu5 (fun i hi => .inl hi)
                   have HU5 := Lib.hid hU5
                   have Hm5 := Lib.hid hm5
                   clear b5 hU5 hm5 hu5)
                | (at_builtin
                   refine wpList_push _ rfl (.tmp 39) (.tmp 41) _ rfl symT (base := w.heap.size) (v := .slice Av S.length cv) (rows := S.map svs) rfl (by exact (Hst2.out.hv.upd HU5.out (fun i hi e => Hne1.out _ _ _ _ Hst2.out.hv (by rw [hi, e]))).alloc _) (g := w5.heap.size) (cells := #[.string O[k2].1, .int .i64 O[k2].2.1, .bool O[k2].2.2]) rfl (heap_alloc_new w5 _) rfl (by simp [Value.oneCell']) (by rw [List.length_map]; omega) (by rw [List.length_map]; unfold maxLen; omega) (by simp; omega) ?_
                   intro v6 w6 hown6 hup6 hat6
                   have hz6 := hup6.size
                   simp only [alloc_size] at hz6
                   have Hown6 := Lib.hid hown6
                   have Hup6 := Lib.hid hup6
                   have Hat6 := Lib.hid hat6
                   clear hown6 hup6 hat6)
                | (at_builtin
                   refine wpList_push _ rfl (.tmp 43) (.tmp 44) _ rfl intT (base := w.heap.size) (v := .slice An S.length cn) (rows := (S.map (part l k k2)).map nvs) rfl (by
                     have h1 := (Hst2.out.hn.upd HU5.out (fun i hi e => Hne1.out _ _ _ _ Hst2.out.hn (by rw [hi, e]))).alloc (.cells #[.string O[k2].1, .int .i64 O[k2].2.1, .bool O[k2].2.2] 31)
                     exact (h1.upd Hup6.out (fun i hi e => Hst2.out.hn.ne_own Hst2.out.hv (by decide) i hi e)).alloc _) (g := w6.heap.size) (cells := #[.int .i64 0]) rfl (heap_alloc_new w6 _) rfl (by simp [Value.oneCell']) (by rw [List.length_map, List.length_map]; omega) (by rw [List.length_map, List.length_map]; unfold maxLen; omega) (by simp; omega) ?_
                   intro v7 w7 hown7 hup7 hat7
                   have Hown7 := Lib.hid hown7
                   have Hup7 := Lib.hid hup7
                   have Hat7 := Lib.hid hat7
                   clear hown7 hup7 hat7))
              go_meet
              have hadd : addSy S O[k2] = S ++ [O[k2]] := addSy_not Hmem.out
              have hv5 : Own w5 w.heap.size 31 3 (.slice Av S.length cv) (S.map svs) := Hst2.out.hv.upd HU5.out (fun i hi e => Hne1.out _ _ _ _ Hst2.out.hv (by rw [hi, e]))
              have hn5 : Own w5 w.heap.size 3 1 (.slice An S.length cn) ((S.map (part l k k2)).map nvs) := Hst2.out.hn.upd HU5.out (fun i hi e => Hne1.out _ _ _ _ Hst2.out.hn (by rw [hi, e]))
              have hn6 : Own w6 w.heap.size 3 1 (.slice An S.length cn) ((S.map (part l k k2)).map nvs) := (hn5.alloc _).upd Hup6.out (fun i hi e => hn5.ne_own hv5 (by decide) i hi e)
              have hv7 : Own w7 w.heap.size 31 3 v6 ((addSy S O[k2]).map svs) := by
                rw [hadd, List.map_append]
                exact (Hown6.out.alloc _).upd Hup7.out (fun i hi e => hn6.ne_own Hown6.out (by decide) i e hi)
              have hn7 : Own w7 w.heap.size 3 1 v7 (((addSy S O[k2]).map (part l k k2)).map nvs) := by
                rw [hadd, List.map_append, List.map_append]
                simp only [List.map_cons, List.map_nil, Hpnew.out]
                exact Hown7.out
              have hm5 : MapF w5 w.heap.size symV (idxF (addSy S O[k2])) := Hm5.out.congr (fun y => by rw [hadd]; exact idxF_snoc Hmem.out y)
              have hg5 : ∀ (v : Value) (rows : List (List Value)) (e : TypeId) (sz : Nat), Own w5 w.heap.size e sz v rows → v.ownBlock ≠ some w.heap.size := fun v rows e sz h => by
                obtain ⟨es, ck, kv, hg0, _⟩ := hm5
                exact h.ne_map hg0
              have hm7 : MapF w7 w.heap.size symV (idxF (addSy S O[k2])) := (((hm5.alloc _).upd Hup6.out (hg5 _ _ _ _ hv5)).alloc _).upd Hup7.out (hg5 _ _ _ _ hn5)
              have hU : Upd wr w7 (fun i => i = w.heap.size ∨ (Value.slice Av S.length cv).ownBlock = some i ∨ (Value.slice An S.length cn).ownBlock = some i) :=
                ((((HU5.out.more (fun i hi => .inl (.inl hi))).alloc _).trans Hup6.out (fun i hi => .inl (.inr (.inl hi)))).alloc _).trans Hup7.out (fun i hi => .inl (.inr (.inr hi)))
              refine ⟨⟨hv7, hn7, hm7, Nat.le_refl _⟩, hU.toLow hz2 (fun i hi => ?_), (hU.block _ hlx (fun hi => ?_)).trans Hbx2.out, HOw2.out.upd hU (fun i hi hF => ?_), fun i hi => ?_, S.length, by rw [hadd]; simp, rfl, by simp [hadd]⟩
              · rcases hi with rfl | hi | hi
                · exact Nat.le_refl _
                · exact (Hst2.out.hv.lt i hi).1
                · exact (Hst2.out.hn.lt i hi).1
              · rcases hi with hi | hi | hi
                · obtain ⟨es, ck, kv, hg0, _⟩ := Hst2.out.hm
                  rw [← hi, Hbx2.out] at hg0
                  cases hg0
                · exact Hst2.out.hv.ne_cells Hbx2.out (by decide) hi
                · exact Hst2.out.hn.ne_cells Hbx2.out (by decide) hi
              · rcases hF with hF | hF | hF
                · exact Hne1.out _ _ _ _ HOw2.out (by rw [hi, hF])
                · exact Hne2.out i hF hi
                · exact Hst2.out.hn.ne_own HOw2.out (by decide) i hF hi
              · rcases Hat6.out with h | h
                · exact Hne2.out i (by rw [← h]; exact hi)
                · intro hA
                  have h1 := (HOw2.out.lt i hA).2
                  rw [h] at hi
                  injection hi with hi
                  simp at hi
                  omega
            case rest =>
              obtain ⟨hst3, hbl3, hbx3, hOw3, hne3, j', hj', rfl, hjs⟩ := hcut
              have hz3 := hbl3.size
              have hxc := fun o => cell_of_row wc wo.heap.size o _ _ _ hbx3
              have HSt3 := Lib.hid hst3
              have Hbl3 := Lib.hid hbl3
              have Hbx3 := Lib.hid hbx3
              have HOw3 := Lib.hid hOw3
              have Hne3 := Lib.hid hne3
              have Hjs := Lib.hid hjs
              clear hst3 hbl3 hbx3 hOw3 hne3 hjs hlk
              have hS' : addAll (allSy (l.take k)) (O.take (k2 + 1)) = addSy S O[k2] := by rw [List.take_succ_eq_append_getElem hlt2, addAll_snoc, HS.out]
              have HS' := Lib.hid hS'
              clear hS'
              by_cases hg : isGoal l[k].role = true
              · go_wp2_with (go_at_call 22; refine (goal_any _ _ _ _ _ _ _ _).mono ?_; rintro e w5 ⟨rfl, hb5⟩)
                go_roundw
                case rel =>
                  have hp : part l k (k2 + 1) = part l k k2 := funext fun s => by rw [part_goal l k hlt _ hg, part_goal l k hlt _ hg]
                  have h5 := HSt3.out.low hb5
                  exact ⟨k2 + 1, by omega, by go_num, by rw [HS'.out]; exact ⟨h5.hv, by rw [hp]; exact h5.hn, h5.hm, h5.hg⟩, Hb2.out.trans ((Hbl3.out).trans (hb5.mono (by omega))), (hb5.block _ (ltOf Hbx3.out)).trans Hbx3.out, HOw3.out.low hb5, Hne3.out⟩
                case measure => simp [intOf]; omega
              · rw [Bool.not_eq_true] at hg
                obtain ⟨Ax, cx, hvx, hcx, hmx⟩ := HSt3.out.hn.form
                rw [List.length_map, List.length_map] at hvx hcx
                subst hvx
                have hlen3 := addSy_len S O[k2]
                have hpl := part_le l k k2 (addSy S O[k2])[j']
                go_wp2_with (go_at_call 22
                             refine (goal_any _ _ _ _ _ _ _ _).mono ?_
                             rintro e w5 ⟨rfl, hb5⟩
                             obtain ⟨gn, hgn, hbn, hln, cn, fn⟩ := (HSt3.out.hn.low hb5).row_at (k := j') (by simpa using hj') (by omega)
                             subst hgn
                             have cn0 := cn 0 (by omega)
                             have fn0 := fn 0 (by omega)
                             simp only [List.getElem_map, nvs, List.getElem_cons_zero, Nat.mul_one, Nat.add_zero] at cn0 fn0
                             clear cn fn)
                go_roundw
                case rel =>
                  have h5 := HSt3.out.low hb5
                  have hU : Upd w5 (w5.setCell ⟨gn, j', none⟩ (.int .i64 ((part l k k2 (addSy S O[k2])[j'] : Nat) + 1 : Int))) (fun i => i = gn) := (Upd.refl w5 _).setCell _ _ (.inl rfl)
                  have hnst : Own (w5.setCell ⟨gn, j', none⟩ (.int .i64 ((part l k k2 (addSy S O[k2])[j'] : Nat) + 1 : Int))) w.heap.size 3 1 (.slice (some ⟨gn, 0, none⟩) (addSy S O[k2]).length cx) (((addSy S O[k2]).map (part l k (k2 + 1))).map nvs) := by
                    have h1 := h5.hn
                    rw [nvs_map] at h1
                    have h2 := h1.set1 (j := j') (.int .i64 ((part l k k2 (addSy S O[k2])[j'] : Nat) + 1 : Int))
                    have h3 : ((addSy S O[k2]).map (part l k (k2 + 1))).map nvs = ((((addSy S O[k2]).map (part l k k2)).map fun n : Nat => Value.int .i64 (n : Int)).set j' (.int .i64 ((part l k k2 (addSy S O[k2])[j'] : Nat) + 1 : Int))).map fun u => [u] := by
                      have hsp := set_part l k k2 hlt HO.out hlt2 hg (addSy_nodup HSnd.out O[k2]) hj' Hjs.out
                      have hms := List.map_set (f := fun n : Nat => Value.int .i64 (n : Int)) (l := (addSy S O[k2]).map (part l k k2)) (i := j') (a := part l k k2 (addSy S O[k2])[j'] + 1)
                      rw [hsp] at hms
                      rw [nvs_map, hms]
                      rfl
                    rw [h3]
                    exact h2
                  have hmst : ¬ w.heap.size = gn := fun e => by
                    obtain ⟨es, ck, kv, hg0, _⟩ := h5.hm
                    exact h5.hn.ne_map hg0 (by rw [e]; rfl)
                  refine ⟨k2 + 1, by omega, by go_num, by rw [HS'.out]; exact ⟨h5.hv.upd hU (fun i hi e => h5.hn.ne_own h5.hv (by decide) gn rfl (by rw [hi, e])), hnst, h5.hm.upd hU hmst, h5.hg⟩, ?_, ?_, ?_, Hne3.out⟩
                  · exact (Hb2.out.trans ((Hbl3.out).trans (hb5.mono (by omega)))).setCell hbn _
                  · refine (hU.block _ (ltOf ((hb5.block _ (ltOf Hbx3.out)).trans Hbx3.out)) (fun e => ?_)).trans ((hb5.block _ (ltOf Hbx3.out)).trans Hbx3.out)
                    exact h5.hn.ne_cells ((hb5.block _ (ltOf Hbx3.out)).trans Hbx3.out) (by decide) (by rw [e]; rfl)
                  · exact (HOw3.out.low hb5).upd hU (fun i hi e => h5.hn.ne_own (HOw3.out.low hb5) (by decide) gn rfl (by rw [hi, e]))
                case measure => simp [intOf]; omega
        · have hk3 : O.length ≤ k2 := by omega
          have hp : part l k k2 = part l (k + 1) 0 := funext fun s => by rw [part_all l k hlt k2 (by rw [HO.out]; exact hk3), part_zero]
          have hS2 : addAll (allSy (l.take k)) (O.take k2) = allSy (l.take (k + 1)) := by
            rw [List.take_of_length_le hk3, List.take_succ_eq_append_getElem hlt, allSy_snoc, HO.out]
          have Hp := Lib.hid hp
          have HS2 := Lib.hid hS2
          clear hp hS2
          go_wp2_with fail
          go_roundw
          case rel =>
            refine ⟨k + 1, by omega, by go_num, ?_, Hb2.out⟩
            have := Hst2.out
            rw [HS2.out] at this
            exact ⟨this.hv, by rw [← Hp.out]; exact this.hn, this.hm, this.hg⟩
          case measure => simp [intOf]; omega
    · have hk3 : l.length ≤ k := by omega
      go_wp2_with fail
      go_ret2
      have e1 : l.take k = l := List.take_of_length_le hk3
      have h1 := Hst.out
      rw [e1] at h1
      have hp : part l k 0 = common l := funext fun s => by rw [part_zero, e1]
      exact ⟨_, _, rfl, h1.hv, by rw [commons, ← hp]; exact h1.hn, Hbel.out⟩

end Go.Proofs.Ytikgjappablbhaa
