/-
  Walks over formula.Symbols: the closure that goes over formulas, and the function itself.
-/
import Derived.Test.YtikgjappablbhaaSymsProg
import Derived.Laws.EntriesVeiled
namespace Go.Proofs.Ytikgjappablbhaa
open Go.RowKit

theorem SymSt.notF {w : World} {base bs bo be g : Nat} {v : Value} {l : List Sy} (h : SymSt w base bs bo be g v l) {b : Nat} {o : Array Value} {tt : TypeId} (hb : w.heap[b]? = some (.cells o tt (0, 0)))
    (h1 : tt ≠ 25) (h2 : tt ≠ 31) : ¬ SymF bo g v b := by
  intro hF
  rcases hF with rfl | rfl | hF
  · obtain ⟨es, ck, kv, hg0, _⟩ := h.hm
    rw [hb] at hg0; cases hg0
  · rw [h.ho] at hb; injection hb with hb; injection hb with _ hb; exact h1 hb.symm
  · exact h.hv.ne_cells hb h2 hF

/-- The block of the closure that goes over formulas. -/
def WalkB (w : World) (be bw : Nat) : Prop := w.heap[bw]? = some (.cells #[.func (.func 33) #[] #[.pointer (some ⟨be, 0, none⟩), .pointer (some ⟨bw, 0, none⟩)]] 75 (0, 0))

set_option maxHeartbeats 600000 in
theorem symWalk_any (d : Nat) : ∀ (f : Fm) (o : Int) (v1 v2 v3 v : Value) (l : List Sy) (B base bs bo be g bw : Nat) (w : World), htFm f ≤ d → RdF w B f o v1 v2 v3 → B ≤ base → base ≤ w.heap.size →
    SymSt w base bs bo be g v l → WalkB w be bw → l.length + nodesFm f ≤ 1000000 →
    Calls Try.prog 33 #[.agg #[.int .i64 o, v1, v2, v3], .pointer (some ⟨be, 0, none⟩), .pointer (some ⟨bw, 0, none⟩)] w (SymPost base bs bo be g v w (symsFm l f)) := by
  induction d with
  | zero => intro f o v1 v2 v3 v l B base bs bo be g bw w h; cases f; simp [htFm] at h
  | succ d ih =>
  rintro ⟨o, vs, ts, fs⟩ o2 v1 v2 v3 v l B base bs bo be g bw w hd ⟨rfl, hv, ht, hf⟩ hB hbase hst hwb hlen
  obtain ⟨Av, cv, rfl, hcv, hnv, hmv⟩ := hv.sl_form
  obtain ⟨At, ct, rfl, hct, hnt, hmt⟩ := ht.sl_form
  obtain ⟨Af, cf, rfl, hcf, hnf, hmf⟩ := hf.sl_form
  rw [encExs_len] at hct hnt ht ⊢
  rw [encFms_len] at hcf hnf hf ⊢
  rw [List.length_map] at hcv hnv ⊢
  simp only [htFm] at hd
  simp only [nodesFm] at hlen
  unfold maxLen at hmt hmf hmv
  have hsy : symsFm l (.mk o vs ts fs) = symsFms (symsExs (isAtom o) l ts) fs := rfl
  have Hsy := Lib.hid hsy
  have hia := isAtom_eq o
  have Ht := Lib.hid ht
  have Hf := Lib.hid hf
  have Hih := Lib.hid ih
  have Hlts := Lib.hid hst.lts
  have Hges := Lib.hid hst.ges
  have hlw := ltOf hwb
  have hle := ltOf hst.he
  have Hnw := Lib.hid (hst.notF hwb (by decide) (by decide))
  have Hst := Lib.hid hst
  have Hwb := Lib.hid hwb
  clear hv ht hf ih hst hwb hsy
  go_enter Try.func33, Try.ntmps33
  go_wp2_with fail
  go_loopw [11] (fun i wr => ∃ k : Nat, k ≤ ts.length ∧ i = .int .i64 k ∧ ∃ u, SymSt wr base bs bo be g u (symsExs (isAtom o) l (ts.take k)) ∧ Upd w wr (SymF bo g v) ∧ (u.ownBlock = v.ownBlock ∨ ∀ i, u.ownBlock = some i → w.heap.size < i) ∧
    wr.heap[w.heap.size]? = some (.cells #[.int .i64 o, .slice Av vs.length cv, .slice At ts.length ct, .slice Af fs.length cf] 41 (0, 0))) (fun i _ => ts.length - (intOf i).toNat)
  case atStart => exact ⟨0, Nat.zero_le _, rfl, v, Hst.out.low (below_box w _), (Upd.refl _ _).alloc _, .inl rfl, heap_alloc_new w _⟩
  case round =>
    obtain ⟨k, hk, rfl, u, hst1, hupd, hfr, hbox⟩ := hrel
    have hsz : w.heap.size < wr.heap.size := ltOf hbox
    have hce := cellOf hst1.he
    have hle1 := ltOf hst1.he
    have hbx := fun o => cell_of_row wr w.heap.size o _ _ _ hbox
    have Hst1 := Lib.hid hst1
    have Hup1 := Lib.hid hupd
    have Hfr1 := Lib.hid hfr
    have Hbox1 := Lib.hid hbox
    clear hst1 hupd hfr hbox
    by_cases hlt : k < ts.length
    · have hlow : Below base w wr := Hup1.out.toLow hbase (fun i hi => Hges.out i hi)
      obtain ⟨ab, off, b', s', ys, u2, rfl, hxk, hb, c0, c1, c2, hrd⟩ := (Ht.out.low hlow hB).ex_at hlt
      obtain ⟨A2, cc2, rfl, _, _, _⟩ := hrd.sl_form
      have hnt1 := nodesExs_take hlt
      rw [hxk] at hnt1
      simp only [nodesEx] at hnt1
      have hsl := symsExs_len (isAtom o) l (ts.take k)
      have hsn := symsExs_snoc (isAtom o) l ts k hlt
      rw [hxk] at hsn
      have Hsn := Lib.hid hsn
      have Hr := Lib.hid hrd
      clear hxk hrd hsn hlow
      go_wp2_with (go_at_call 32; refine (symExpr_any _ b' (isAtom o) s' ys _ u (symsExs (isAtom o) l (ts.take k)) B base bs bo be g _ (Nat.lt_succ_self _) (Hr.out.low (below_box wr _) (by omega)) hB (by simp; omega) (Hst1.out.low (below_box wr _)) (by omega)).mono ?_; rintro e w1 ⟨v1', rfl, hst2, hup2, hfr2⟩)
      go_roundw
      case rel =>
        have hup3 : Upd wr w1 (SymF bo g u) := ((Upd.refl wr (SymF bo g u)).alloc _).trans hup2 (fun i hi => .inl hi)
        have hfr3 : v1'.ownBlock = u.ownBlock ∨ ∀ i, v1'.ownBlock = some i → wr.heap.size ≤ i := hfr2.imp id (fun h i hi => by have := h i hi; simp at this; omega)
        obtain ⟨h1, h2, h3⟩ := symF_step Hlts.out Hup1.out Hfr1.out hup3 hfr3 hsz
        exact ⟨k + 1, by omega, by go_num, v1', by rw [Hsn.out]; exact hst2, h1, h2, h3.trans Hbox1.out⟩
      case measure => simp [intOf]; omega
    · obtain rfl : k = ts.length := by omega
      have hsl := symsExs_len (isAtom o) l ts
      rw [List.take_length] at Hst1
      generalize hl1 : symsExs (isAtom o) l ts = l1 at Hst1 hsl
      have Hl1 := Lib.hid hl1
      clear hl1
      obtain ⟨wo, rfl⟩ : ∃ wo : World, wo = wr := ⟨_, rfl⟩
      clear hce hle1
      go_wp2_with fail
      go_loopw [25] (fun i wr => ∃ k : Nat, k ≤ fs.length ∧ i = .int .i64 k ∧ ∃ u, SymSt wr base bs bo be g u (symsFms l1 (fs.take k)) ∧ Upd w wr (SymF bo g v) ∧ (u.ownBlock = v.ownBlock ∨ ∀ i, u.ownBlock = some i → w.heap.size < i) ∧
        wr.heap[w.heap.size]? = some (.cells #[.int .i64 o, .slice Av vs.length cv, .slice At ts.length ct, .slice Af fs.length cf] 41 (0, 0))) (fun i _ => fs.length - (intOf i).toNat)
      case atStart => exact ⟨0, Nat.zero_le _, rfl, u, Hst1.out, Hup1.out, Hfr1.out, Hbox1.out⟩
      case round =>
        clear Hst1 Hup1 Hfr1 Hbox1 hbx hsz
        obtain ⟨k, hk, rfl, u, hst1, hupd, hfr, hbox⟩ := hrel
        have hsz : w.heap.size < wr.heap.size := ltOf hbox
        have hwb1 : WalkB wr be bw := (hupd.block bw hlw Hnw.out).trans Hwb.out
        have hcw := cellOf hwb1
        have hlw1 := ltOf hwb1
        have hbx := fun o => cell_of_row wr w.heap.size o _ _ _ hbox
        have Hst1 := Lib.hid hst1
        have Hup1 := Lib.hid hupd
        have Hfr1 := Lib.hid hfr
        have Hbox1 := Lib.hid hbox
        have Hwb1 := Lib.hid hwb1
        clear hst1 hupd hfr hbox hwb1
        by_cases hlt : k < fs.length
        · have hlow : Below base w wr := Hup1.out.toLow hbase (fun i hi => Hges.out i hi)
          obtain ⟨ab, off, o', vv, tt, aa, rfl, hb, c0, c1, c2, c3, hrd⟩ := (Hf.out.low hlow hB).fm_at hlt
          have hht := htFm_le hlt
          have hnt1 := nodesFms_take hlt
          have hsl2 := symsFms_len l1 (fs.take k)
          have hsn := symsFms_snoc l1 fs k hlt
          obtain ⟨A1, A2, A3, n1, n2, n3, cc1, cc2, cc3, rfl, rfl, rfl⟩ : ∃ A1 A2 A3 n1 n2 n3 cc1 cc2 cc3, vv = .slice A1 n1 cc1 ∧ tt = .slice A2 n2 cc2 ∧ aa = .slice A3 n3 cc3 := by
            rcases hfk : fs[k] with ⟨o', vs', ts', fs'⟩
            rw [hfk] at hrd
            obtain ⟨A1, cc1, h1, _⟩ := hrd.2.1.sl_form
            obtain ⟨A2, cc2, h2, _⟩ := hrd.2.2.1.sl_form
            obtain ⟨A3, cc3, h3, _⟩ := hrd.2.2.2.sl_form
            exact ⟨A1, A2, A3, _, _, _, cc1, cc2, cc3, h1, h2, h3⟩
          have Hsn := Lib.hid hsn
          have Hr := Lib.hid hrd
          clear hrd hsn hlow
          go_wp2_with (go_at_call 33; refine (Hih.out _ _ _ _ _ u (symsFms l1 (fs.take k)) B base bs bo be g bw _ (by omega) (Hr.out.low (below_box wr _) (by omega)) hB (by simp; omega) (Hst1.out.low (below_box wr _)) ((Below.heap_alloc wr _ _ hlw1).trans Hwb1.out) (by omega)).mono ?_; rintro e w1 ⟨v1', rfl, hst2, hup2, hfr2⟩)
          go_roundw
          case rel =>
            have hup3 : Upd wr w1 (SymF bo g u) := ((Upd.refl wr (SymF bo g u)).alloc _).trans hup2 (fun i hi => .inl hi)
            have hfr3 : v1'.ownBlock = u.ownBlock ∨ ∀ i, v1'.ownBlock = some i → wr.heap.size ≤ i := hfr2.imp id (fun h i hi => by have := h i hi; simp at this; omega)
            obtain ⟨h1, h2, h3⟩ := symF_step Hlts.out Hup1.out Hfr1.out hup3 hfr3 hsz
            exact ⟨k + 1, by omega, by go_num, v1', by rw [Hsn.out]; exact hst2, h1, h2, h3.trans Hbox1.out⟩
          case measure => simp [intOf]; omega
        · obtain rfl : k = fs.length := by omega
          go_wp2_with fail
          go_end0
          refine ⟨u, rfl, ?_, Hup1.out, ?_⟩
          · rw [Hsy.out, Hl1.out]
            have := Hst1.out
            rwa [List.take_length] at this
          · rcases Hfr1.out with h | h
            · exact .inl h
            · exact .inr fun i hi => Nat.le_of_lt (h i hi)

/-- What Symbols answers. -/
def SymsRes (w : World) (l : List Sy) (e : Ending) (w' : World) : Prop := ∃ v, e = .returned v ∧ Own w' w.heap.size 31 3 v (l.map svs) ∧ Below w.heap.size w w'

set_option maxHeartbeats 400000 in
theorem progSymbols_any (f : Fm) (o : Int) (v1 v2 v3 : Value) (B : Nat) (w : World) (hr : RdF w B f o v1 v2 v3) (hB : B ≤ w.heap.size) (hn : nodesFm f ≤ 100000) :
    Calls Try.prog 21 #[.agg #[.int .i64 o, v1, v2, v3]] w (SymsRes w (symsFm [] f)) := by
  have Hr := Lib.hid hr
  clear hr
  have hmm := @run_makeMap Try.prog
  go_enter Try.func21, Try.ntmps21
  go_wp2_with fail
  have hst : ∀ W : World, W = (((((w.alloc (Obj.cells #[.int .i64 o, v1, v2, v3] 41)).alloc (Obj.cells #[.slice none 0 0] 25)).alloc (Obj.map #[] 0)).alloc (Obj.cells #[.map (some (w.heap.size + 1 + 1))] 58)).alloc
      (Obj.cells #[.func (.func 32) #[] #[.pointer (some ⟨w.heap.size + 1 + 1 + 1, 0, none⟩), .pointer (some ⟨w.heap.size + 1, 0, none⟩), .pointer (some ⟨w.heap.size + 1 + 1 + 1 + 1, 0, none⟩)]] 74)).alloc
      (Obj.cells #[.func (.func 33) #[] #[.pointer (some ⟨w.heap.size + 1 + 1 + 1 + 1, 0, none⟩), .pointer (some ⟨w.heap.size + 1 + 1 + 1 + 1 + 1, 0, none⟩)]] 75) →
      SymSt W w.heap.size (w.heap.size + 1 + 1 + 1) (w.heap.size + 1) (w.heap.size + 1 + 1 + 1 + 1) (w.heap.size + 1 + 1) (.slice none 0 0) [] ∧ WalkB W (w.heap.size + 1 + 1 + 1 + 1) (w.heap.size + 1 + 1 + 1 + 1 + 1) ∧ Below w.heap.size w W ∧ W.heap.size = w.heap.size + 6 := by
    rintro W rfl
    refine ⟨⟨by simp only [alloc_get, alloc_size]; repeat (first | rw [if_pos trivial] | rw [if_neg (by omega)]), by simp only [alloc_get, alloc_size]; repeat (first | rw [if_pos trivial] | rw [if_neg (by omega)]), by simp only [alloc_get, alloc_size]; repeat (first | rw [if_pos trivial] | rw [if_neg (by omega)]), ?_, Own.nil _ _ _ _, by omega, by omega, by omega, by omega⟩, by simp only [WalkB, alloc_get, alloc_size]; repeat (first | rw [if_pos trivial] | rw [if_neg (by omega)]), ?_, by simp⟩
    · exact ⟨#[], 0, [], by simp only [alloc_get, alloc_size]; repeat (first | rw [if_pos trivial] | rw [if_neg (by omega)]), rfl, fun _ => rfl⟩
    · exact ((((((Below.refl _ _).alloc (Nat.le_refl _) _).alloc (by simp) _).alloc (by simp; omega) _).alloc (by simp; omega) _).alloc (by simp; omega) _).alloc (by simp; omega) _
  have hst := hst _ rfl
  obtain ⟨h1, h2, h3, h4⟩ := hst
  refine (symWalk_any _ f o v1 v2 v3 _ [] B w.heap.size _ _ _ _ _ _ (Nat.le_refl _) (Hr.out.low h3 hB) hB (by omega) h1 h2 (by simp; omega)).mono ?_
  rintro e w1 ⟨v', rfl, hst2, hup2, hfr2⟩
  have hco := cellOf hst2.ho
  have hfo := freeOf hst2.ho
  have hlo := ltOf hst2.ho
  obtain ⟨A', c', hv', _, _⟩ := hst2.hv.form
  rw [List.length_map] at hv'
  subst hv'
  have Hst2 := Lib.hid hst2
  clear hst2
  go_wp2_with fail
  have hc2 : (w1.setCell ⟨w.heap.size + 1, 0, none⟩ (.slice A' (symsFm [] f).length c')).cell? ⟨w.heap.size + 1, 0, none⟩ = some (.slice A' (symsFm [] f).length c') := by
    rw [cell_of_row _ _ 0 _ _ _ (heap_setCell_same w1 (w.heap.size + 1) 0 _ _ _ Hst2.out.ho)]; rfl
  refine bodyPost_ret (v := .slice A' (symsFm [] f).length c') (by simp [results, Try.results21, go_sem, hc2]) rfl ⟨_, rfl, ?_, ?_⟩
  · have hvo : (Value.slice A' (symsFm [] f).length c').ownBlock ≠ some (w.heap.size + 1) := Hst2.out.hv.ne_cells Hst2.out.ho (by decide)
    exact Hst2.out.hv.upd ((Upd.refl w1 (fun k => k = w.heap.size + 1)).setCell ⟨w.heap.size + 1, 0, none⟩ _ (.inl rfl)) (fun i hi e => hvo (by rw [hi, e]))
  · have hu : Upd _ w1 (SymF (w.heap.size + 1) (w.heap.size + 1 + 1) (.slice none 0 0)) := hup2
    have hb1 : Below w.heap.size w w1 := h3.trans (hu.toLow (by omega) (fun i hi => h1.ges i hi))
    exact hb1.setCell (p := ⟨w.heap.size + 1, 0, none⟩) (by simp) _

end Go.Proofs.Ytikgjappablbhaa
