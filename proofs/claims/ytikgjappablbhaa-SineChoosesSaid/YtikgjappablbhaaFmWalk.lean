/-
  Walks over ref13: exprSize, Size, Depth; the laws' Great.
-/
import Derived.Test.YtikgjappablbhaaProg
import Derived.Test.YtikgjappablbhaaFm
namespace Go.Proofs.Ytikgjappablbhaa
open Go.RowKit

set_option maxHeartbeats 400000 in
theorem exprSize_any (d : Nat) : ∀ (b : Bool) (s : ByteArray) (xs : List Ex) (v2 : Value) (B : Nat) (w : World), htExs xs < d → Rd w B (.sl 3 (encExs xs)) v2 → B ≤ w.heap.size →
    Calls Try.prog 30 #[.agg #[.bool b, .string s, v2]] w fun e w' => e = .returned (.int .i64 (sizeEx (.mk b s xs))) ∧ Below w.heap.size w w' := by
  induction d with
  | zero => intro b s xs v2 B w h; omega
  | succ d ih =>
  intro b s xs v2 B w hd hr hB
  obtain ⟨A, c, rfl, hc, hn, hm⟩ := hr.sl_form
  rw [encExs_len] at hc hn hr ⊢
  have H3 := Lib.hid hr
  have Hih := Lib.hid ih
  clear hr ih
  unfold maxLen at hm
  go_enter Try.func30, Try.ntmps30
  go_wp2_with fail
  go_loopw [3, 4] (fun n i wr => ∃ k : Nat, k ≤ xs.length ∧ i = .int .i64 k ∧ n = .int .i64 (sizeExs 1 (xs.take k)) ∧ Below w.heap.size w wr ∧ wr.heap[w.heap.size]? = some (Obj.cells #[Value.bool b, Value.string s, Value.slice A xs.length c] 71)) (fun _ i _ => xs.length - (intOf i).toNat)
  case atStart => exact ⟨0, Nat.zero_le _, rfl, rfl, (Below.refl _ _).alloc (Nat.le_refl _) _, heap_alloc_new w _⟩
  case round =>
    obtain ⟨k, hk, rfl, rfl, hbel, hown⟩ := hrel
    have hsz : w.heap.size < wr.heap.size := (Array.getElem?_eq_some_iff.1 hown).1
    have hown2 := fun o => cell_of_row wr w.heap.size o _ _ _ hown
    have Hown := Lib.hid hown
    clear hown
    by_cases hlt : k < xs.length
    · obtain ⟨ab, off, b', s', ys, u, rfl, hxk, hb, c0, c1, c2, hrd⟩ := (H3.out.low hbel hB).ex_at hlt
      have hht := htEx_le hlt
      rw [hxk] at hht
      simp only [htEx] at hht
      have hle := sizeEx_le (.mk b' s' ys)
      have hle2 := sizeExs_le 1 (by omega) (xs.take k)
      have Hx := Lib.hid hxk
      have Hr := Lib.hid hrd
      clear hxk hrd
      go_wp2_with (go_at_call 30; refine (Hih.out b' s' ys _ _ _ (by omega) Hr.out (by omega)).mono ?_; rintro e w1 ⟨rfl, hb1⟩)
      go_roundw
      case rel => 
        refine ⟨k + 1, by omega, by go_num, ?_, hbel.trans (hb1.mono (by omega)), ?_⟩
        · rw [List.take_succ_eq_append_getElem hlt, sizeExs_snoc, Hx.out]; congr 1; split <;> omega
        · rw [hb1.block _ hsz]; exact Hown.out
      case measure => simp [intOf]; omega
    · go_wp2
      go_ret
      refine ⟨?_, hbel⟩
      have e : xs.take k = xs := List.take_of_length_le (by omega)
      rw [e]; rfl

set_option maxHeartbeats 400000 in
theorem size_any (d : Nat) : ∀ (f : Fm) (o : Int) (v1 v2 v3 : Value) (B : Nat) (w : World), htFm f ≤ d → RdF w B f o v1 v2 v3 → B ≤ w.heap.size →
    Calls Try.prog 19 #[.agg #[.int .i64 o, v1, v2, v3]] w fun e w' => e = .returned (.int .i64 (sizeFm f)) ∧ Below w.heap.size w w' := by
  induction d with
  | zero => intro f o v1 v2 v3 B w h; cases f; simp [htFm] at h
  | succ d ih =>
  rintro ⟨o, vs, ts, fs⟩ o2 v1 v2 v3 B w hd ⟨rfl, hv, ht, hf⟩ hB
  obtain ⟨Av, cv, rfl, hcv, hnv, hmv⟩ := hv.sl_form
  obtain ⟨At, ct, rfl, hct, hnt, hmt⟩ := ht.sl_form
  obtain ⟨Af, cf, rfl, hcf, hnf, hmf⟩ := hf.sl_form
  rw [encExs_len] at hct hnt ht ⊢
  rw [encFms_len] at hcf hnf hf ⊢
  rw [List.length_map] at hcv hnv ⊢
  simp only [htFm] at hd
  have Ht := Lib.hid ht
  have Hf := Lib.hid hf
  have Hih := Lib.hid ih
  clear hv ht hf ih
  unfold maxLen at hmv hmt hmf
  have Hs0 : ∃ s0 : Nat, s0 = min (1 + vs.length) 2147483647 := ⟨_, rfl⟩
  obtain ⟨s0, hs0⟩ := Hs0
  have hs0b : s0 ≤ 2147483647 := by omega
  have hfin : sizeFm (.mk o vs ts fs) = sizeFms (sizeExs s0 ts) fs := by rw [sizeFm, hs0]
  rw [hfin]
  have Hs0 := Lib.hid hs0
  have hmin : (if (2147483647 : Int) < 1 + (vs.length : Int) then 2147483647 else 1 + (vs.length : Int)) = (s0 : Int) := by split <;> omega
  clear hs0 hfin
  go_enter Try.func19, Try.ntmps19
  go_wp2_with fail
  go_loopw [3, 4] (fun n i wr => ∃ k : Nat, k ≤ ts.length ∧ i = .int .i64 k ∧ n = .int .i64 (sizeExs s0 (ts.take k)) ∧ Below w.heap.size w wr ∧ wr.heap[w.heap.size]? = some (Obj.cells #[.int .i64 o, .slice Av vs.length cv, .slice At ts.length ct, .slice Af fs.length cf] 41)) (fun _ i _ => ts.length - (intOf i).toNat)
  case atStart => exact ⟨0, Nat.zero_le _, rfl, rfl, (Below.refl _ _).alloc (Nat.le_refl _) _, heap_alloc_new w _⟩
  case round =>
    obtain ⟨k, hk, rfl, rfl, hbel, hown⟩ := hrel
    have hsz : w.heap.size < wr.heap.size := (Array.getElem?_eq_some_iff.1 hown).1
    have hown2 := fun o => cell_of_row wr w.heap.size o _ _ _ hown
    have Hown := Lib.hid hown
    clear hown
    have hle2 := sizeExs_le s0 hs0b (ts.take k)
    by_cases hlt : k < ts.length
    · obtain ⟨ab, off, b', s', ys, u, rfl, hxk, hb, c0, c1, c2, hrd⟩ := (Ht.out.low hbel hB).ex_at hlt
      have hle := sizeEx_le (.mk b' s' ys)
      have Hx := Lib.hid hxk
      have Hr := Lib.hid hrd
      clear hxk hrd
      go_wp2_with (go_at_call 30; refine (exprSize_any _ b' s' ys _ _ _ (Nat.lt_succ_self _) Hr.out (by omega)).mono ?_; rintro e w1 ⟨rfl, hb1⟩)
      go_roundw
      case rel =>
        refine ⟨k + 1, by omega, by go_num, ?_, hbel.trans (hb1.mono (by omega)), ?_⟩
        · rw [List.take_succ_eq_append_getElem hlt, sizeExs_snoc, Hx.out]; congr 1; split <;> omega
        · rw [hb1.block _ hsz]; exact Hown.out
      case measure => simp [intOf]; omega
    · obtain rfl : k = ts.length := by omega
      rw [List.take_length] at hle2 ⊢
      generalize hs1 : sizeExs s0 ts = s1 at hle2
      have Hs1 := Lib.hid hs1
      clear hs1
      go_wp2_with fail
      obtain ⟨wo, rfl⟩ : ∃ wo : World, wo = wr := ⟨_, rfl⟩
      go_loopw [3, 5] (fun n i wr => ∃ k : Nat, k ≤ fs.length ∧ i = .int .i64 k ∧ n = .int .i64 (sizeFms s1 (fs.take k)) ∧ Below w.heap.size w wr ∧ wr.heap[w.heap.size]? = some (Obj.cells #[.int .i64 o, .slice Av vs.length cv, .slice At ts.length ct, .slice Af fs.length cf] 41)) (fun _ i _ => fs.length - (intOf i).toNat)
      case atStart => exact ⟨0, Nat.zero_le _, rfl, rfl, hbel, Hown.out⟩
      case round =>
        clear hbel hsz hown2 Hown
        obtain ⟨k, hk, rfl, rfl, hbel, hown⟩ := hrel
        have hsz : w.heap.size < wr.heap.size := (Array.getElem?_eq_some_iff.1 hown).1
        have hown2 := fun o => cell_of_row wr w.heap.size o _ _ _ hown
        have Hown := Lib.hid hown
        clear hown
        have hle3 := sizeFms_le s1 hle2 (fs.take k)
        by_cases hlt : k < fs.length
        · obtain ⟨ab, off, o', v, t, a, rfl, hb, c0, c1, c2, c3, hrd⟩ := (Hf.out.low hbel hB).fm_at hlt
          have hht := htFm_le hlt
          have hle := sizeFm_le fs[k]
          have Hr := Lib.hid hrd
          clear hrd
          go_wp2_with (go_at_call 19; refine (Hih.out _ _ _ _ _ _ _ (by omega) Hr.out (by omega)).mono ?_; rintro e w1 ⟨rfl, hb1⟩)
          go_roundw
          case rel =>
            refine ⟨k + 1, by omega, by go_num, ?_, hbel.trans (hb1.mono (by omega)), ?_⟩
            · rw [List.take_succ_eq_append_getElem hlt, sizeFms_snoc]; congr 1; split <;> omega
            · rw [hb1.block _ hsz]; exact Hown.out
          case measure => simp [intOf]; omega
        · obtain rfl : k = fs.length := by omega
          rw [List.take_length]
          go_wp2_with fail
          go_ret
          exact ⟨by rw [Hs1.out]; rfl, hbel⟩

set_option maxHeartbeats 400000 in
theorem depth_any (d : Nat) : ∀ (f : Fm) (o : Int) (v1 v2 v3 : Value) (B : Nat) (w : World), htFm f ≤ d → d ≤ 100000 → RdF w B f o v1 v2 v3 → B ≤ w.heap.size →
    Calls Try.prog 29 #[.agg #[.int .i64 o, v1, v2, v3]] w fun e w' => e = .returned (.int .i64 (htFm f)) ∧ Below w.heap.size w w' := by
  induction d with
  | zero => intro f o v1 v2 v3 B w h; cases f; simp [htFm] at h
  | succ d ih =>
  rintro ⟨o, vs, ts, fs⟩ o2 v1 v2 v3 B w hd hd2 ⟨rfl, hv, ht, hf⟩ hB
  obtain ⟨Af, cf, rfl, hcf, hnf, hmf⟩ := hf.sl_form
  rw [encFms_len] at hcf hnf hf ⊢
  simp only [htFm] at hd ⊢
  have Hf := Lib.hid hf
  have Hih := Lib.hid ih
  clear hv ht hf ih
  unfold maxLen at hmf
  go_enter Try.func29, Try.ntmps29
  go_wp2_with fail
  go_loopw [3, 4] (fun n i wr => ∃ k : Nat, k ≤ fs.length ∧ i = .int .i64 k ∧ n = .int .i64 (htFms (fs.take k)) ∧ Below w.heap.size w wr ∧ wr.heap[w.heap.size]? = some (Obj.cells #[.int .i64 o, v1, v2, .slice Af fs.length cf] 41)) (fun _ i _ => fs.length - (intOf i).toNat)
  case atStart => exact ⟨0, Nat.zero_le _, rfl, rfl, (Below.refl _ _).alloc (Nat.le_refl _) _, heap_alloc_new w _⟩
  case round =>
    obtain ⟨k, hk, rfl, rfl, hbel, hown⟩ := hrel
    have hsz : w.heap.size < wr.heap.size := (Array.getElem?_eq_some_iff.1 hown).1
    have hown2 := fun o => cell_of_row wr w.heap.size o _ _ _ hown
    have Hown := Lib.hid hown
    clear hown
    by_cases hlt : k < fs.length
    · obtain ⟨ab, off, o', v, t, a, rfl, hb, c0, c1, c2, c3, hrd⟩ := (Hf.out.low hbel hB).fm_at hlt
      have hht := htFm_le hlt
      have Hr := Lib.hid hrd
      clear hrd
      have hmax : (if (htFms (fs.take k) : Int) < (htFm fs[k] : Int) then (htFm fs[k] : Int) else (htFms (fs.take k) : Int)) = (htFms (fs.take (k + 1)) : Int) := by
        rw [List.take_succ_eq_append_getElem hlt, htFms_snoc]; split <;> omega
      go_wp2_with (go_at_call 29; refine (Hih.out _ _ _ _ _ _ _ (by omega) (by omega) Hr.out (by omega)).mono ?_; rintro e w1 ⟨rfl, hb1⟩)
      go_roundw
      case rel =>
        refine ⟨k + 1, by omega, by go_num, by go_num, hbel.trans (hb1.mono (by omega)), ?_⟩
        rw [hb1.block _ hsz]; exact Hown.out
      case measure => simp [intOf]; omega
    · obtain rfl : k = fs.length := by omega
      rw [List.take_length]
      go_wp2_with fail
      go_ret
      exact ⟨by simp, hbel⟩

set_option maxHeartbeats 400000 in
theorem great13_any (f : Fm) (o : Int) (v1 v2 v3 : Value) (B : Nat) (w : World) (hr : RdF w B f o v1 v2 v3) (hB : B ≤ w.heap.size) :
    Calls Try.prog 18 #[.agg #[.int .i64 o, v1, v2, v3]] w fun e w' => e = .returned (.bool (greatFm f)) ∧ Below w.heap.size w w' := by
  have Hr := Lib.hid hr
  have hs := htFm_size f
  have hsl := sizeFm_le f
  clear hr
  by_cases h1 : 3000 < sizeFm f
  · have hg : greatFm f = true := by simp [greatFm, h1]
    rw [hg]
    clear hg
    go_enter Try.func18, Try.ntmps18
    go_wp2_with (go_at_call 19; refine (size_any _ _ _ _ _ _ _ _ (Nat.le_refl _) (Hr.out.low (below_box w _) hB) (by simp; omega)).mono ?_; rintro e w1 ⟨rfl, hb1⟩; obtain ⟨hc1, hb1, hz1⟩ := box_after hb1)
    go_ret
    exact ⟨by simp, hb1⟩
  · have hg : greatFm f = decide (400 < htFm f) := by simp [greatFm, h1]
    rw [hg]
    clear hg
    go_enter Try.func18, Try.ntmps18
    go_wp2_with (first
      | (go_at_call 19; refine (size_any _ _ _ _ _ _ _ _ (Nat.le_refl _) (Hr.out.low (below_box w _) hB) (by simp; omega)).mono ?_; rintro e w1 ⟨rfl, hb1⟩; obtain ⟨hc1, hb1, hz1⟩ := box_after hb1)
      | (go_at_call 29; refine (depth_any _ _ _ _ _ _ _ _ (Nat.le_refl _) (by omega) (Hr.out.low hb1 hB) (by omega)).mono ?_; rintro e w2 ⟨rfl, hb2⟩))
    go_ret
    refine ⟨?_, hb1.trans (hb2.mono (by omega))⟩
    have e1 : ¬ (3000 : Int) < (sizeFm f : Int) := by omega
    have e2 : ((400 : Int) < (htFm f : Int)) = (400 < htFm f) := by apply propext; omega
    simp [e1, e2]

/-- What the guard says: few entries, none of them great. -/
def Few (l : List En) : Prop := l.length ≤ 300 ∧ ∀ x ∈ l, greatFm x.form = false

def FewRes (l : List En) (w : World) (e : Ending) (w' : World) : Prop := ∃ g : Bool, e = .returned (.bool g) ∧ (g = false → Few l) ∧ Below w.heap.size w w'

set_option maxHeartbeats 400000 in
theorem great14_any (l : List En) (v : Value) (B : Nat) (w : World) (hr : Rd w B (.sl 7 (l.map encEn)) v) (hB : B ≤ w.heap.size) :
    Calls Try.prog 8 #[v] w (FewRes l w) := by
  obtain ⟨A, c, rfl, hc, hn, hm⟩ := hr.sl_form
  rw [List.length_map] at hc hn hr ⊢
  have Hr := Lib.hid hr
  clear hr
  unfold maxLen at hm
  go_enter Try.func8, Try.ntmps8
  go_wp2_with fail
  go_loopw [3, 4] (fun n i wr => ∃ k s : Nat, k ≤ l.length ∧ i = .int .i64 k ∧ n = .int .i64 s ∧ k ≤ 301 ∧ s ≤ 20000 + 3000 ∧ (∀ x ∈ l.take k, greatFm x.form = false) ∧ Below w.heap.size w wr) (fun _ i _ => l.length - (intOf i).toNat)
  case atStart => exact ⟨0, 0, Nat.zero_le _, rfl, rfl, by omega, by omega, by simp, Below.refl _ _⟩
  case round =>
    obtain ⟨k, s, hk, rfl, rfl, hk1, hs1, hall, hbel⟩ := hrel
    have Hall := Lib.hid hall
    have hsz := hbel.size
    clear hall
    by_cases hlt : k < l.length ∧ k ≤ 300 ∧ s ≤ 20000
    · obtain ⟨hlt, hk3, hs3⟩ := hlt
      obtain ⟨ab, off, o, v, t, a, rfl, hb, c0, c1, c2, c3, c4, c5, c6, hrd⟩ := (Hr.out.low hbel hB).en_at hlt
      have Hrd := Lib.hid hrd
      clear hrd c0 c1 c2
      by_cases hg : greatFm l[k].form = true
      · go_wp2_with (go_at_call 18; refine (great13_any _ _ _ _ _ _ _ Hrd.out (by omega)).mono ?_; rintro e w1 ⟨rfl, hb1⟩)
        go_ret
        exact ⟨true, by simp, by simp, hbel.trans (hb1.mono (by omega))⟩
      · have hg' : greatFm l[k].form = false := by simpa using hg
        have hsl : sizeFm l[k].form ≤ 3000 := by simp [greatFm] at hg; omega
        clear hg
        go_wp2_with (first
          | (go_at_call 18; refine (great13_any _ _ _ _ _ _ _ Hrd.out (by omega)).mono ?_; rintro e w1 ⟨rfl, hb1⟩; have hz1 := hb1.size; have hcc := fun o (h : ab < wr.heap.size) => hb1.cell (p := ⟨ab, o, none⟩) h; have d3 := (hcc _ (by omega)).trans c3; have d4 := (hcc _ (by omega)).trans c4; have d5 := (hcc _ (by omega)).trans c5; have d6 := (hcc _ (by omega)).trans c6; clear hcc)
          | (go_at_call 19; refine (size_any _ _ _ _ _ _ _ _ (Nat.le_refl _) (Hrd.out.low hb1 (by omega)) (by omega)).mono ?_; rintro e w2 ⟨rfl, hb2⟩))
        go_roundw
        case rel =>
          refine ⟨k + 1, s + sizeFm l[k].form, by omega, by go_num, by go_num, by omega, by omega, ?_, hbel.trans ((hb1.mono hsz).trans (hb2.mono (by omega)))⟩
          intro x hx
          rw [List.take_succ_eq_append_getElem hlt] at hx
          rcases List.mem_append.1 hx with h | h
          · exact Hall.out x h
          · rw [List.mem_singleton.1 h]; exact hg'
        case measure => simp [intOf]; omega
    · go_wp2_with fail
      all_goals
        go_ret
        refine ⟨_, rfl, ?_, hbel⟩
        intro hg
        first
          | (simp at hg; exact ⟨by omega, fun x hx => Hall.out x (by rw [List.take_of_length_le (by omega)]; exact hx)⟩)
          | (simp at hg; done)

end Go.Proofs.Ytikgjappablbhaa
