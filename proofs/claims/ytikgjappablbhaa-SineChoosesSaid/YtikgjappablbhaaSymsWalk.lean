/-
  Walks over ref13: symbolsExpr, Symbols.
-/
import Derived.Test.YtikgjappablbhaaProg
import Derived.Test.YtikgjappablbhaaSyms
import Derived.Test.YtikgjappablbhaaSyWalk
import Derived.Deep.DeepCutAuto
import Derived.Deep.LoopGhost
import Derived.StillTailTactics
namespace Go.Proofs.Ytikgjappablbhaa
open Go.RowKit

theorem symT : SliceTy Try.prog 25 31 3 32 := sliceTy Try.underlying25 (z := .agg #[.string ByteArray.empty, .int .i64 0, .bool false]) (by kernel_rfl) rfl (by omega)

/-- What a call answers that hands a list of symbols on. -/
def SyRes (base : Nat) (v : Value) (w : World) (l : List Sy) (e : Ending) (w' : World) : Prop :=
  ∃ v', e = .returned v' ∧ Own w' base 31 3 v' (l.map svs) ∧ Upd w w' (fun k => v.ownBlock = some k) ∧ (v'.ownBlock = v.ownBlock ∨ ∀ g, v'.ownBlock = some g → w.heap.size ≤ g)

/-- What holds behind the first half of symbolsExpr. -/
def SyMid (base : Nat) (v : Value) (w : World) (l : List Sy) (box : Array Value) (v' : Value) (w' : World) : Prop :=
  Own w' base 31 3 v' (l.map svs) ∧ Upd w w' (fun k => v.ownBlock = some k) ∧ (v'.ownBlock = v.ownBlock ∨ ∀ g, v'.ownBlock = some g → w.heap.size < g) ∧ w'.heap[w.heap.size]? = some (.cells box 71 (0, 0))

set_option maxHeartbeats 400000 in
theorem symbolsExpr_any (d : Nat) : ∀ (b pred : Bool) (s : ByteArray) (xs : List Ex) (v2 v : Value) (l : List Sy) (B base : Nat) (w : World), htExs xs < d → Rd w B (.sl 3 (encExs xs)) v2 → B ≤ base → base ≤ w.heap.size →
    Own w base 31 3 v (l.map svs) → l.length + nodesExs xs + 1 ≤ 1000000 →
    Calls Try.prog 28 #[.agg #[.bool b, .string s, v2], .bool pred, v] w (SyRes base v w (symsEx pred l (.mk b s xs))) := by
  induction d with
  | zero => intro b pred s xs v2 v l B base w h; omega
  | succ d ih =>
  intro b pred s xs v2 v l B base w hd hr hB hbase hown hlen
  obtain ⟨A, c, rfl, hc, hn, hm⟩ := hr.sl_form
  rw [encExs_len] at hc hn hr ⊢
  have H3 := Lib.hid hr
  have Hih := Lib.hid ih
  clear hr ih
  unfold maxLen at hm
  obtain ⟨Av, cv, rfl, hcv, hmv⟩ := hown.form
  rw [List.length_map] at hcv hown ⊢
  unfold maxLen at hmv
  have Hown := Lib.hid hown
  clear hown
  have hol : ∀ g, (Value.slice Av l.length cv).ownBlock = some g → base ≤ g ∧ g < w.heap.size := fun g hg => Hown.out.lt g hg
  have Hol := Lib.hid hol
  clear hol
  go_enter Try.func28, Try.ntmps28
  go_upto_if 13 with (fail)
  go_cut [2] (fun s2 wx => SyMid base (.slice Av l.length cv) w (if b then l else addSy l (s, xs.length, pred)) #[.bool b, .string s, .slice A xs.length c] s2 wx)
  case first =>
    cases b with
    | true =>
      go_wp2_with fail
      go_meet
      exact ⟨Hown.out.alloc _, (Upd.refl _ _).alloc _, .inl rfl, heap_alloc_new w _⟩
    | false =>
      go_wp2_with fail
      go_loopw [8, 9] (fun t i wr => ∃ k : Nat, k ≤ l.length ∧ i = .int .i64 k ∧ t = .bool (hasSy (l.take k) (s, xs.length, pred)) ∧ Below (w.heap.size + 2) ((w.alloc (Obj.cells #[.bool false, .string s, .slice A xs.length c] 71)).alloc (Obj.cells #[.string s, .int .i64 xs.length, .bool pred] 31)) wr) (fun _ i _ => l.length - (intOf i).toNat)
      case atStart => exact ⟨0, Nat.zero_le _, rfl, rfl, Below.refl _ _⟩
      case round => 
        obtain ⟨k, hk, rfl, rfl, hbel⟩ := hrel
        have hz : w.heap.size + 2 ≤ wr.heap.size := by simpa using hbel.size
        have hbx : wr.heap[w.heap.size]? = some (.cells #[.bool false, .string s, .slice A xs.length c] 71 (0, 0)) := by
          rw [hbel.block _ (by omega), Below.heap_alloc _ _ _ (by simp)]; exact heap_alloc_new w _
        have hbs : wr.heap[w.heap.size + 1]? = some (.cells #[.string s, .int .i64 xs.length, .bool pred] 31 (0, 0)) := by
          rw [hbel.block _ (by omega)]
          have := heap_alloc_new (w.alloc (Obj.cells #[.bool false, .string s, .slice A xs.length c] 71)) (Obj.cells #[.string s, .int .i64 xs.length, .bool pred] 31)
          simpa using this
        have hcs := fun o => cell_of_row wr (w.heap.size + 1) o _ _ _ hbs
        have hown1 : Own wr base 31 3 (.slice Av l.length cv) (l.map svs) := ((Hown.out.alloc _).alloc _).low (by simpa using hbel)
        have Hown1 := Lib.hid hown1
        have Hbx := Lib.hid hbx
        have Hbs := Lib.hid hbs
        clear hown1 hbx hbs
        by_cases hlt : k < l.length
        · have hsn : hasSy (l.take (k + 1)) (s, xs.length, pred) = (hasSy (l.take k) (s, xs.length, pred) || decide (l[k] = (s, xs.length, pred))) := by
            rw [List.take_succ_eq_append_getElem hlt, hasSy_snoc]
          by_cases hth : hasSy (l.take k) (s, xs.length, pred) = true
          · rw [hth] at hsn ⊢
            have Hsn := Lib.hid hsn
            clear hsn hth
            go_wp2_with fail
            go_quiet (fail)
            go_wp2_with fail
            go_roundw
            case rel => exact ⟨k + 1, by omega, by go_num, by rw [Hsn.out]; rfl, drewN_low hbel _⟩
            case measure => simp [intOf]; omega
          · rw [Bool.not_eq_true] at hth
            obtain ⟨g, rfl, hbg, hgl, d0, d1, d2⟩ := Hown1.out.sy_at hlt
            have hq := run_eq_sy l[k].1 s l[k].2.1 xs.length l[k].2.2 pred
            rw [sameB_iff l[k] (s, xs.length, pred)] at hq
            rw [hth, Bool.false_or] at hsn
            rw [hth]
            have Hsn := Lib.hid hsn
            generalize hdd : decide (l[k] = (s, xs.length, pred)) = dd at hq
            have Hdd := Lib.hid hdd
            clear hsn hth hdd
            go_wp2_with fail
            go_quiet (fail)
            go_wp2_with fail
            go_roundw
            case rel => exact ⟨k + 1, by omega, by go_num, by rw [Hsn.out, Hdd.out], drewN_low hbel _⟩
            case measure => simp [intOf]; omega
        · obtain rfl : k = l.length := by omega
          rw [List.take_length]
          by_cases hth : hasSy l (s, xs.length, pred) = true
          · rw [hth]
            have hadd : addSy l (s, xs.length, pred) = l := by unfold addSy; rw [if_pos hth]
            have Hadd := Lib.hid hadd
            clear hadd hth
            go_wp2_with fail
            go_meet
            refine ⟨?_, ?_, .inl rfl, Hbx.out⟩
            · simp only [Bool.false_eq_true, if_false]; rw [Hadd.out]; exact Hown1.out
            · exact Upd.trans (b := (w.alloc _).alloc _) (((Upd.refl _ _).alloc _).alloc _) (Upd.low (by simpa using hbel) (fun _ => False)) (by simp)
          · rw [Bool.not_eq_true] at hth
            rw [hth]
            have hadd : addSy l (s, xs.length, pred) = l ++ [(s, xs.length, pred)] := by unfold addSy; rw [if_neg (by rw [hth]; simp)]
            have Hadd := Lib.hid hadd
            clear hadd hth
            go_wp2_with (at_builtin; refine wpList_push _ rfl (.tmp 38) (.tmp 40) _ rfl symT (base := base) (v := .slice Av l.length cv) (rows := l.map svs) rfl (by exact Hown1.out.alloc _) (g := wr.heap.size) (cells := #[.string s, .int .i64 xs.length, .bool pred]) rfl (heap_alloc_new wr _) rfl (by simp [Value.oneCell']) (by rw [List.length_map]; omega) (by rw [List.length_map]; unfold maxLen; omega) (by simp; omega) ?_; intro v1 w1 hown2 hup2 hat2)
            go_meet
            have hu0 : Upd w wr (fun k => (Value.slice Av l.length cv).ownBlock = some k) :=
              Upd.trans (b := (w.alloc _).alloc _) (((Upd.refl _ _).alloc _).alloc _) (Upd.low (by simpa using hbel) (fun _ => False)) (by simp)
            refine ⟨?_, ?_, ?_, ?_⟩
            · simp only [Bool.false_eq_true, if_false]; rw [Hadd.out, List.map_append]; exact hown2
            · exact (hu0.alloc _).trans hup2 (fun i hi => .inl hi)
            · rcases hat2 with h | h
              · exact .inl h
              · refine .inr fun g hg => ?_
                rw [h] at hg
                injection hg with hg
                simp at hg
                omega
            · rw [hup2.block w.heap.size (by simp; omega) (fun h => by have := (Hol.out _ h).2; omega), Below.heap_alloc _ _ _ (by omega)]
              exact Hbx.out
  case rest =>
    obtain ⟨hown, hupd, hfr, hbox⟩ := hcut
    generalize hl1 : (if b then l else addSy l (s, xs.length, pred)) = l1 at hown
    have hl1len : l1.length ≤ l.length + 1 := by
      have := addSy_len l (s, xs.length, pred)
      rw [← hl1]; split <;> omega
    have hsy : symsEx pred l (.mk b s xs) = symsExs false l1 xs := by rw [symsEx, hl1]
    have Hsy := Lib.hid hsy
    have Hown1 := Lib.hid hown
    have Hup1 := Lib.hid hupd
    have Hfr1 := Lib.hid hfr
    have Hbox1 := Lib.hid hbox
    clear hown hupd hfr hbox hl1 hsy
    obtain ⟨wb, rfl⟩ : ∃ wb : World, wb = wc := ⟨_, rfl⟩
    go_wp2_with fail
    go_loopw [2, 10] (fun v i wr => ∃ k : Nat, k ≤ xs.length ∧ i = .int .i64 k ∧ Own wr base 31 3 v ((symsExs false l1 (xs.take k)).map svs) ∧ Upd w wr (fun k => (Value.slice Av l.length cv).ownBlock = some k) ∧
      (v.ownBlock = (Value.slice Av l.length cv).ownBlock ∨ ∀ g, v.ownBlock = some g → w.heap.size < g) ∧ wr.heap[w.heap.size]? = some (.cells #[.bool b, .string s, .slice A xs.length c] 71 (0, 0))) (fun _ i _ => xs.length - (intOf i).toNat)
    case atStart => exact ⟨0, Nat.zero_le _, rfl, Hown1.out, Hup1.out, Hfr1.out, Hbox1.out⟩
    case round =>
      clear Hown1 Hup1 Hfr1 Hbox1
      obtain ⟨k, hk, rfl, hown, hupd, hfr, hbox⟩ := hrel
      have hsz : w.heap.size < wr.heap.size := (Array.getElem?_eq_some_iff.1 hbox).1
      have hbx := fun o => cell_of_row wr w.heap.size o _ _ _ hbox
      have Hown1 := Lib.hid hown
      have Hup1 := Lib.hid hupd
      have Hfr1 := Lib.hid hfr
      have Hbox1 := Lib.hid hbox
      clear hown hupd hfr hbox
      by_cases hlt : k < xs.length
      · have hlow : Below base w wr := Hup1.out.toLow hbase (fun i hi => (Hol.out i hi).1)
        obtain ⟨ab, off, b', s', ys, u, rfl, hxk, hb, c0, c1, c2, hrd⟩ := (H3.out.low hlow hB).ex_at hlt
        have hht := htEx_le hlt
        rw [hxk] at hht
        simp only [htEx] at hht
        have hnt := nodesExs_take hlt
        rw [hxk] at hnt
        simp only [nodesEx] at hnt
        have hsl := symsExs_len false l1 (xs.take k)
        have hsn := symsExs_snoc false l1 xs k hlt
        rw [hxk] at hsn
        have Hsn := Lib.hid hsn
        have Hr := Lib.hid hrd
        clear hxk hrd hsn hlow
        go_wp2_with (go_at_call 28; refine (Hih.out b' false s' ys _ _ _ B base _ (by omega) Hr.out hB (by omega) Hown1.out (by omega)).mono ?_; rintro e w1 ⟨v1, rfl, hown2, hup2, hfr2⟩)
        go_roundw
        case rel =>
          obtain ⟨h1, h2, h3⟩ := own_step (fun g hg => (Hol.out g hg).2) Hup1.out Hfr1.out hup2 hfr2 hsz
          exact ⟨k + 1, by omega, by go_num, by rw [Hsn.out]; exact hown2, h1, h2, h3.trans Hbox1.out⟩
        case measure => simp [intOf]; omega
      · obtain rfl : k = xs.length := by omega
        go_wp2_with fail
        go_ret
        refine ⟨_, rfl, ?_, Hup1.out, ?_⟩
        · rw [Hsy.out]
          have := Hown1.out
          rwa [List.take_length] at this
        · rcases Hfr1.out with h | h
          · exact .inl h
          · exact .inr fun g hg => Nat.le_of_lt (h g hg)

/-- Is the op an atom's: as the walk spells it. -/
theorem isAtom_eq (o : Int) : (o == 3) = isAtom o := by unfold isAtom; by_cases h : o = 3 <;> simp [h]

set_option maxHeartbeats 400000 in
theorem symbols_any (d : Nat) : ∀ (f : Fm) (o : Int) (v1 v2 v3 v : Value) (l : List Sy) (B base : Nat) (w : World), htFm f ≤ d → RdF w B f o v1 v2 v3 → B ≤ base → base ≤ w.heap.size →
    Own w base 31 3 v (l.map svs) → l.length + nodesFm f ≤ 1000000 →
    Calls Try.prog 16 #[.agg #[.int .i64 o, v1, v2, v3], v] w (SyRes base v w (symsFm l f)) := by
  induction d with
  | zero => intro f o v1 v2 v3 v l B base w h; cases f; simp [htFm] at h
  | succ d ih =>
  rintro ⟨o, vs, ts, fs⟩ o2 v1 v2 v3 v l B base w hd ⟨rfl, hv, ht, hf⟩ hB hbase hown hlen
  obtain ⟨At, ct, rfl, hct, hnt, hmt⟩ := ht.sl_form
  obtain ⟨Af, cf, rfl, hcf, hnf, hmf⟩ := hf.sl_form
  rw [encExs_len] at hct hnt ht ⊢
  rw [encFms_len] at hcf hnf hf ⊢
  simp only [htFm] at hd
  simp only [nodesFm] at hlen
  unfold maxLen at hmt hmf
  have hol : ∀ g, v.ownBlock = some g → base ≤ g ∧ g < w.heap.size := fun g hg => hown.lt g hg
  have hsy : symsFm l (.mk o vs ts fs) = symsFms (symsExs (isAtom o) l ts) fs := rfl
  have Hsy := Lib.hid hsy
  have Hol := Lib.hid hol
  have Hown := Lib.hid hown
  have Ht := Lib.hid ht
  have Hf := Lib.hid hf
  have Hih := Lib.hid ih
  have hia := isAtom_eq o
  clear hv ht hf ih hown hol hsy
  go_enter Try.func16, Try.ntmps16
  go_wp2_with fail
  go_loopw [1, 5] (fun u i wr => ∃ k : Nat, k ≤ ts.length ∧ i = .int .i64 k ∧ Own wr base 31 3 u ((symsExs (isAtom o) l (ts.take k)).map svs) ∧ Upd w wr (fun k => v.ownBlock = some k) ∧
      (u.ownBlock = v.ownBlock ∨ ∀ g, u.ownBlock = some g → w.heap.size < g) ∧ wr.heap[w.heap.size]? = some (.cells #[.int .i64 o, v1, .slice At ts.length ct, .slice Af fs.length cf] 41 (0, 0))) (fun _ i _ => ts.length - (intOf i).toNat)
  case atStart => exact ⟨0, Nat.zero_le _, rfl, Hown.out.alloc _, (Upd.refl _ _).alloc _, .inl rfl, heap_alloc_new w _⟩
  case round =>
    obtain ⟨k, hk, rfl, hown, hupd, hfr, hbox⟩ := hrel
    have hsz : w.heap.size < wr.heap.size := (Array.getElem?_eq_some_iff.1 hbox).1
    have hbx := fun o => cell_of_row wr w.heap.size o _ _ _ hbox
    have Hown1 := Lib.hid hown
    have Hup1 := Lib.hid hupd
    have Hfr1 := Lib.hid hfr
    have Hbox1 := Lib.hid hbox
    clear hown hupd hfr hbox
    by_cases hlt : k < ts.length
    · have hlow : Below base w wr := Hup1.out.toLow hbase (fun i hi => (Hol.out i hi).1)
      obtain ⟨ab, off, b', s', ys, u, rfl, hxk, hb, c0, c1, c2, hrd⟩ := (Ht.out.low hlow hB).ex_at hlt
      have hnt1 := nodesExs_take hlt
      rw [hxk] at hnt1
      simp only [nodesEx] at hnt1
      have hsl := symsExs_len (isAtom o) l (ts.take k)
      have hsn := symsExs_snoc (isAtom o) l ts k hlt
      rw [hxk] at hsn
      have Hsn := Lib.hid hsn
      have Hr := Lib.hid hrd
      clear hxk hrd hsn hlow
      go_wp2_with fail
      go_still_tail 9, (by kernel_rfl)
      change wpList _ _ _ _ _ wr.drew
      obtain ⟨wd, hwd⟩ : ∃ wd, wd = wr.drew := ⟨_, rfl⟩
      rw [← hwd]
      have Hwd := Lib.hid hwd
      clear hwd
      have hzd : wd.heap.size = wr.heap.size := by rw [Hwd.out]; rfl
      have hsz2 : w.heap.size < wd.heap.size := by omega
      go_wp2_with (go_at_call 28; refine (symbolsExpr_any _ b' (isAtom o) s' ys _ _ (symsExs (isAtom o) l (ts.take k)) B base _ (Nat.lt_succ_self _) (by rw [Hwd.out]; exact Hr.out.keep fun _ _ => rfl) hB (by omega) (by rw [Hwd.out]; exact Hown1.out) (by omega)).mono ?_; rintro e w1 ⟨v1', rfl, hown2, hup2, hfr2⟩)
      go_roundw
      case rel =>
        have hupd : Upd w wd (fun k => v.ownBlock = some k) := by rw [Hwd.out]; exact Hup1.out.drewN 1
        have hbd : wd.heap[w.heap.size]? = wr.heap[w.heap.size]? := by rw [Hwd.out]; rfl
        obtain ⟨h1, h2, h3⟩ := own_step (fun g hg => (Hol.out g hg).2) hupd Hfr1.out hup2 hfr2 hsz2
        exact ⟨k + 1, by omega, by go_num, by rw [Hsn.out]; exact hown2, h1, h2, (h3.trans hbd).trans Hbox1.out⟩
      case measure => simp [intOf]; omega
    · obtain rfl : k = ts.length := by omega
      have hsl := symsExs_len (isAtom o) l ts
      rw [List.take_length] at Hown1
      generalize hl1 : symsExs (isAtom o) l ts = l1 at Hown1 hsl
      have Hl1 := Lib.hid hl1
      clear hl1
      obtain ⟨wo, rfl⟩ : ∃ wo : World, wo = wr := ⟨_, rfl⟩
      go_wp2_with fail
      go_loopw [1, 6] (fun u i wr => ∃ k : Nat, k ≤ fs.length ∧ i = .int .i64 k ∧ Own wr base 31 3 u ((symsFms l1 (fs.take k)).map svs) ∧ Upd w wr (fun k => v.ownBlock = some k) ∧
      (u.ownBlock = v.ownBlock ∨ ∀ g, u.ownBlock = some g → w.heap.size < g) ∧ wr.heap[w.heap.size]? = some (.cells #[.int .i64 o, v1, .slice At ts.length ct, .slice Af fs.length cf] 41 (0, 0))) (fun _ i _ => fs.length - (intOf i).toNat)
      case atStart => exact ⟨0, Nat.zero_le _, rfl, Hown1.out, Hup1.out, Hfr1.out, Hbox1.out⟩
      case round =>
        clear Hown1 Hup1 Hfr1 Hbox1 hbx hsz
        obtain ⟨k, hk, rfl, hown, hupd, hfr, hbox⟩ := hrel
        have hsz : w.heap.size < wr.heap.size := (Array.getElem?_eq_some_iff.1 hbox).1
        have hbx := fun o => cell_of_row wr w.heap.size o _ _ _ hbox
        have Hown1 := Lib.hid hown
        have Hup1 := Lib.hid hupd
        have Hfr1 := Lib.hid hfr
        have Hbox1 := Lib.hid hbox
        clear hown hupd hfr hbox
        by_cases hlt : k < fs.length
        · have hlow : Below base w wr := Hup1.out.toLow hbase (fun i hi => (Hol.out i hi).1)
          obtain ⟨ab, off, o', vv, tt, aa, rfl, hb, c0, c1, c2, c3, hrd⟩ := (Hf.out.low hlow hB).fm_at hlt
          have hht := htFm_le hlt
          have hnt1 := nodesFms_take hlt
          have hsl2 := symsFms_len l1 (fs.take k)
          have hsn := symsFms_snoc l1 fs k hlt
          have Hsn := Lib.hid hsn
          have Hr := Lib.hid hrd
          clear hrd hsn hlow
          go_wp2_with (go_at_call 16; refine (Hih.out _ _ _ _ _ _ _ B base _ (by omega) Hr.out hB (by omega) Hown1.out (by omega)).mono ?_; rintro e w1 ⟨v1', rfl, hown2, hup2, hfr2⟩)
          go_roundw
          case rel =>
            obtain ⟨h1, h2, h3⟩ := own_step (fun g hg => (Hol.out g hg).2) Hup1.out Hfr1.out hup2 hfr2 hsz
            exact ⟨k + 1, by omega, by go_num, by rw [Hsn.out]; exact hown2, h1, h2, h3.trans Hbox1.out⟩
          case measure => simp [intOf]; omega
        · obtain rfl : k = fs.length := by omega
          go_wp2_with fail
          go_ret
          refine ⟨_, rfl, ?_, Hup1.out, ?_⟩
          · rw [Hsy.out, Hl1.out]
            have := Hown1.out
            rwa [List.take_length] at this
          · rcases Hfr1.out with h | h
            · exact .inl h
            · exact .inr fun g hg => Nat.le_of_lt (h g hg)

end Go.Proofs.Ytikgjappablbhaa
