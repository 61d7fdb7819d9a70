/-
  Walk over law12.TokenAgain.
-/
import Derived.Test.YtgmoneimfnackaaTokS
import Derived.Test.YtgmoneimfnackaaOpenG
import Derived.Test.YtgmoneimfnackaaAnyReg
namespace Go.Proofs.Ytgmoneimfnackaa
open Go.RowKit

theorem cut_bad {s : ByteArray} {L : List Tk} {a er : Nat} (h : cutR s = (L, a, er)) (he : er ≠ 0) : L = [] := by
  unfold cutR at h
  split at h
  · injection h with h _; exact h.symm
  · split at h
    · injection h with _ h; injection h with _ h; exact absurd h.symm he
    · injection h with h _; exact h.symm

theorem bts_add (a b : ByteArray) : bts (a ++ b) = bts a ++ bts b := by
  unfold bts
  simp
theorem bts_txt (t : Tk) : bts (txt t) = wri t.kind (bts t.text) := by
  unfold txt wri
  split
  · rw [bts_add, bts_add]; rfl
  · rfl
theorem txt_size (t : Tk) : (txt t).size ≤ t.text.size + 2 := by
  rw [← bts_len, bts_txt, ← bts_len]
  unfold wri
  split <;> simp

theorem tmod5 (z : Int) : -5 < z.tmod 5 ∧ z.tmod 5 < 5 := ⟨Int.lt_tmod_of_pos z (by decide), Int.tmod_lt_of_pos z (by decide)⟩
theorem tmod55 (z : Int) : ∃ j : Nat, ((z.tmod 5) + 5).tmod 5 = (j : Int) ∧ j < 5 := by
  have h1 := tmod5 z
  have h2 := tmod5 (z.tmod 5 + 5)
  have h3 : 0 ≤ (z.tmod 5 + 5).tmod 5 := Int.tmod_nonneg 5 (by omega)
  exact ⟨((z.tmod 5 + 5).tmod 5).toNat, by omega, by omega⟩
def bwS : List ByteArray := [⟨#[32]⟩, ⟨#[10]⟩, ⟨#[32, 37, 32, 97, 32, 39, 32, 34, 10]⟩, ⟨#[47, 42, 32, 39, 32, 42, 47]⟩, ⟨#[9, 13, 32]⟩]
theorem bwS_betw {j : Nat} (h : j < 5) : bts (bwS.getD j ⟨#[]⟩) ∈ betw ∧ (bwS.getD j ⟨#[]⟩).size ≤ 9 := by
  match j, h with
  | 0, _ => exact ⟨by decide, by decide⟩
  | 1, _ => exact ⟨by decide, by decide⟩
  | 2, _ => exact ⟨by decide, by decide⟩
  | 3, _ => exact ⟨by decide, by decide⟩
  | 4, _ => exact ⟨by decide, by decide⟩
theorem bwS_cell {w w2 : World} {t : TypeId} (hb : Below (w.alloc (.cells #[.string ⟨#[32]⟩, .string ⟨#[10]⟩, .string ⟨#[32, 37, 32, 97, 32, 39, 32, 34, 10]⟩, .string ⟨#[47, 42, 32, 39, 32, 42, 47]⟩, .string ⟨#[9, 13, 32]⟩] t)).heap.size (w.alloc (.cells #[.string ⟨#[32]⟩, .string ⟨#[10]⟩, .string ⟨#[32, 37, 32, 97, 32, 39, 32, 34, 10]⟩, .string ⟨#[47, 42, 32, 39, 32, 42, 47]⟩, .string ⟨#[9, 13, 32]⟩] t)) w2) {j : Nat} (h : j < 5) :
    w2.cell? ⟨w.heap.size, j, none⟩ = some (.string (bwS.getD j ⟨#[]⟩)) := by
  rw [(box_after hb).1 j]
  match j, h with
  | 0, _ => rfl
  | 1, _ => rfl
  | 2, _ => rfl
  | 3, _ => rfl
  | 4, _ => rfl

def againD (k : Nat) : Nat := if k = 12 then 9 else k + 56
theorem againD_inj (k k' : Nat) (hk : k < 13) (hk' : k' < 13) (h : againD k = againD k') : k = k' := by
  unfold againD at h
  split at h <;> split at h <;> omega
def againVals (o bw : ByteArray) (b1 j k n c g : Nat) (t : Tk) : Nat → Value
  | 0 => .string o
  | 1 => .slice (some ⟨b1, 0, none⟩) 5 5
  | 2 => .int .i64 j
  | 3 => .pointer (some ⟨b1, j, none⟩)
  | 4 => .string bw
  | 5 => .string (o ++ bw)
  | 6 => .slice (some ⟨g, 0, none⟩) n c
  | 7 => .int .i64 k
  | 8 => .pointer (some ⟨g, k * 3, none⟩)
  | 9 => tkV t
  | 10 => .string (txt t)
  | _ => .string (o ++ bw ++ txt t)


set_option maxRecDepth 100000 in
set_option maxHeartbeats 4000000 in
theorem again_any (s : ByteArray) (xs : List Int) (v1 : Value) (m : Int) (w : World) (hr : Rd w w.heap.size (.sl 1 (xs.map fun n => [.leaf (.int .i64 n)])) v1) (hx : ∀ n ∈ xs, -9223372036854775808 ≤ n ∧ n ≤ 9223372036854775807)
    (hm : w.cell? ⟨0, 0, none⟩ = some (.int .i64 m)) : Calls Try.prog 5 #[.string s, v1] w (LawRes w) := by
  have hz := cell_pos hm
  obtain ⟨A1, c1, rfl, hc1, hn1, hm1⟩ := hr.sl_form
  rw [List.length_map] at hr hc1 hn1 ⊢
  unfold maxLen at hm1
  obtain ⟨L, a, er, hc⟩ : ∃ L a er, cutR s = (L, a, er) := ⟨_, _, _, rfl⟩
  have hL := cutR_len s
  rw [hc] at hL
  simp only at hL
  have Hr := Lib.hid hr
  have Hx := Lib.hid hx
  have Hm := Lib.hid hm
  by_cases her : er = 0
  · subst her
    obtain ⟨hs, T, hT, hg⟩ := cut_good hc
    have hgood : ∀ k (h : k < L.length), (L[k].text.size ≤ 8000) := by
      intro k h
      have hk : L[k] ∈ T ++ [endT s] := by rw [← hT]; exact List.getElem_mem h
      rcases List.mem_append.1 hk with hk | hk
      · have := (hg _ hk).2; omega
      · rw [List.mem_singleton.1 hk]; exact Nat.zero_le _
    have Hc := Lib.hid hc
    have HT := Lib.hid hT
    have Hg := Lib.hid hg
    have Hgood := Lib.hid hgood
    clear hr hx hm hc hT hg hgood
    go_enter Try.func5, Try.ntmps5
    go_upto_region 2 with (go_at_call 7
                           refine (cut_any s m _ Hm.out).mono ?_
                           rintro e w1 ⟨v1, rfl, hown1, hb1⟩
                           rw [Hc.out] at hown1 ⊢
                           have Hown1 := Lib.hid hown1
                           have Hb1 := Lib.hid hb1
                           clear hown1 hb1)
    have hz1 := Hb1.out.size
    obtain ⟨A2, c2, hv2, hc2, hm2⟩ := Hown1.out.form
    rw [List.length_map] at hc2 hv2
    subst hv2
    unfold maxLen at hm2
    go_wp2_with fail
    obtain ⟨w2, hw2⟩ : ∃ w2, w2 = w1.alloc (.cells #[.string ⟨#[32]⟩, .string ⟨#[10]⟩, .string ⟨#[32, 37, 32, 97, 32, 39, 32, 34, 10]⟩, .string ⟨#[47, 42, 32, 39, 32, 42, 47]⟩, .string ⟨#[9, 13, 32]⟩] 9) := ⟨_, rfl⟩
    rw [← hw2]
    have hcell : ∀ w3 j, Below w2.heap.size w2 w3 → j < 5 → w3.cell? ⟨w1.heap.size, j, none⟩ = some (.string (bwS.getD j ⟨#[]⟩)) := by
      intro w3 j hb hj
      subst hw2
      exact bwS_cell hb hj
    have hb2 : Below w1.heap.size w1 w2 := by rw [hw2]; exact below_box _ _
    have hz12 : w1.heap.size < w2.heap.size := by rw [hw2]; simp
    have Hcell := Lib.hid hcell
    have Hb2 := Lib.hid hb2
    clear hcell hb2 hw2
    have hz2 := Hb2.out.size
    go_loopw [9, 10] (fun ov iv wr => ∃ (k : Nat) (PL : List (List UInt8 × Tk)) (o : ByteArray), iv = .int .i64 k ∧ k ≤ L.length ∧ ov = .string o ∧ PL.map (·.2) = L.take k ∧ (∀ p ∈ PL, p.1 ∈ betw) ∧ bts o = glue PL ∧ o.size ≤ k * 8020 ∧ Below w2.heap.size w2 wr) (fun _ i _ => L.length - (intOf i).toNat)
    case atStart => exact ⟨0, [], ⟨#[]⟩, rfl, Nat.zero_le _, rfl, rfl, by simp, rfl, Nat.zero_le _, Below.refl _ _⟩
    case round =>
      obtain ⟨k, PL, o, rfl, hk, rfl, hpl, hbt, hbo, hoz, hbel⟩ := hrel
      have hzr := hbel.size
      have Hpl := Lib.hid hpl
      have Hbt := Lib.hid hbt
      have Hbo := Lib.hid hbo
      have Hbel := Lib.hid hbel
      clear hpl hbt hbo hbel
      by_cases hlt : k < L.length
      · have hown := (Hown1.out.low Hb2.out).low Hbel.out
        obtain ⟨g2, rfl, hg2, d0, d1, d2⟩ := tk_at hown hlt
        by_cases hxs : 0 < xs.length
        · have hkm : k % xs.length < xs.length := Nat.mod_lt _ hxs
          obtain ⟨ab, off, rfl, hab, ce⟩ := (((Hr.out.low Hb1.out (Nat.le_refl _)).low Hb2.out hz1).low Hbel.out (by omega)).leaf_at (f := fun n : Int => Value.int .i64 n) hkm
          obtain ⟨z, hz⟩ : ∃ z, xs[k % xs.length] = z := ⟨_, rfl⟩
          rw [hz] at ce
          have q1 : ((k : Int).tmod (xs.length : Int)) = ((k % xs.length : Nat) : Int) := by rw [Int.tmod_eq_emod_of_nonneg (by omega)]; simp
          obtain ⟨j, hj, hj5⟩ : ∃ j : Nat, ((z.tmod 5) + 5).tmod 5 = (j : Int) ∧ j < 5 := tmod55 z
          obtain ⟨hz5, hz6⟩ := tmod5 z
          have cj := Hcell.out _ j Hbel.out hj5
          clear hown
          go_wp2_with fail
          obtain ⟨bw, hbw⟩ : ∃ bw, bwS.getD j ⟨#[]⟩ = bw := ⟨_, rfl⟩
          have hbb := bwS_betw hj5
          rw [hbw] at cj hbb
          obtain ⟨hbb, hbz⟩ := hbb
          have hgd := Hgood.out k hlt
          have htx := txt_size L[k]
          refine wp_region_vals (vals := againVals o bw w1.heap.size j k L.length c2 g2 L[k]) (D := againD) (by kernel_rfl) ?hs againD_inj ?step ?fin
          case hs =>
            intro i o' ho
            have hi13 : i < 13 := (Array.getElem?_eq_some_iff.1 ho).1
            rcases (by omega : i = 0 ∨ i = 1 ∨ i = 2 ∨ i = 3 ∨ i = 4 ∨ i = 5 ∨ i = 6 ∨ i = 7 ∨ i = 8 ∨ i = 9 ∨ i = 10 ∨ i = 11 ∨ i = 12) with rfl | rfl | rfl | rfl | rfl | rfl | rfl | rfl | rfl | rfl | rfl | rfl | rfl
            all_goals obtain rfl := Option.some.inj (show some _ = some o' from ho)
            all_goals exact ⟨by simp, rfl, by show againD _ < 122; decide⟩
          case step =>
            intro listed a w' i o' hI ho hl hdep
            have hi13 : i < 13 := (Array.getElem?_eq_some_iff.1 ho).1
            have hbw : Below wr.heap.size wr w' := ⟨hI.bel.os, hI.bel.tape, hI.bel.output, hI.bel.size, hI.bel.block⟩
            rcases (by omega : i = 0 ∨ i = 1 ∨ i = 2 ∨ i = 3 ∨ i = 4 ∨ i = 5 ∨ i = 6 ∨ i = 7 ∨ i = 8 ∨ i = 9 ∨ i = 10 ∨ i = 11 ∨ i = 12) with rfl | rfl | rfl | rfl | rfl | rfl | rfl | rfl | rfl | rfl | rfl | rfl | rfl
            all_goals obtain rfl := Option.some.inj (show some _ = some o' from ho)
            · have e0 : a.tmps.getD 9 undef = .string o := hI.before (k := 12) rfl ⟨⟨0, .phase⟩, by simp, rfl, rfl⟩ hl
              have e : (a.tmps[9]?).getD undef = .string o := by simpa using e0
              exact wpOp_of ho rfl (wp_value (w' := w') (by simp [execOp, e, go_sem, againVals]) ⟨_, rfl, Below.refl _ _, rfl⟩)
            · have e0 : a.tmps.getD 8 undef = .slice (some ⟨w1.heap.size, 0, none⟩) 5 5 := hI.fix 8 (by intro k hk; unfold againD; split <;> omega)
              have e : (a.tmps[8]?).getD undef = .slice (some ⟨w1.heap.size, 0, none⟩) 5 5 := by simpa using e0
              exact wpOp_of ho rfl (wp_value (w' := w') (by simp [execOp, e, go_sem, againVals]) ⟨_, rfl, Below.refl _ _, rfl⟩)
            · have e0 : a.tmps.getD 11 undef = .int .i64 (j : Int) := hI.fix 11 (by intro k hk; unfold againD; split <;> omega)
              have e : (a.tmps[11]?).getD undef = .int .i64 (j : Int) := by simpa using e0
              exact wpOp_of ho rfl (wp_value (w' := w') (by simp [execOp, e, go_sem, againVals]) ⟨_, rfl, Below.refl _ _, rfl⟩)
            ·
              have e10 : a.tmps.getD 57 undef = .slice (some ⟨w1.heap.size, 0, none⟩) 5 5 := hI.done 1 (by simp) (hdep ⟨1, .data⟩ (by simp) rfl)
              have e1 : (a.tmps[57]?).getD undef = .slice (some ⟨w1.heap.size, 0, none⟩) 5 5 := by simpa using e10
              have e20 : a.tmps.getD 58 undef = .int .i64 (j : Int) := hI.done 2 (by simp) (hdep ⟨2, .data⟩ (by simp) rfl)
              have e2 : (a.tmps[58]?).getD undef = .int .i64 (j : Int) := by simpa using e20
              have hj5' : ¬ (5 : Int) ≤ (j : Int) := by omega
              exact wpOp_of ho rfl (wp_value (w' := w') (by simp [execOp, e1, e2, hj5', go_sem, againVals]) ⟨_, rfl, Below.refl _ _, rfl⟩)
            ·
              have e10 : a.tmps.getD 59 undef = .pointer (some ⟨w1.heap.size, j, none⟩) := hI.done 3 (by simp) (hdep ⟨3, .data⟩ (by simp) rfl)
              have e1 : (a.tmps[59]?).getD undef = .pointer (some ⟨w1.heap.size, j, none⟩) := by simpa using e10
              have cj' := (hbw.cell (p := ⟨w1.heap.size, j, none⟩) (by show w1.heap.size < wr.heap.size; omega)).trans cj
              exact wpOp_of ho rfl (wp_value (w' := w') (by simp [execOp, e1, cj', go_sem, againVals]) ⟨_, rfl, Below.refl _ _, rfl⟩)
            ·
              have e10 : a.tmps.getD 56 undef = .string o := hI.done 0 (by simp) (hdep ⟨0, .data⟩ (by simp) rfl)
              have e1 : (a.tmps[56]?).getD undef = .string o := by simpa using e10
              have e20 : a.tmps.getD 60 undef = .string bw := hI.done 4 (by simp) (hdep ⟨4, .data⟩ (by simp) rfl)
              have e2 : (a.tmps[60]?).getD undef = .string bw := by simpa using e20
              exact wpOp_of ho rfl (wp_value (w' := w') (by simp [execOp, e1, e2, go_sem, againVals]; omega) ⟨_, rfl, Below.refl _ _, rfl⟩)
            · have e0 : a.tmps.getD 5 undef = .slice (some ⟨g2, 0, none⟩) L.length c2 := (hI.fix 5 (by intro k hk; unfold againD; split <;> omega)).trans (by simp)
              have e : (a.tmps[5]?).getD undef = .slice (some ⟨g2, 0, none⟩) L.length c2 := by simpa using e0
              exact wpOp_of ho rfl (wp_value (w' := w') (by simp [execOp, e, go_sem, againVals]) ⟨_, rfl, Below.refl _ _, rfl⟩)
            · have e0 : a.tmps.getD 10 undef = .int .i64 (k : Int) := hI.fix 10 (by intro k hk; unfold againD; split <;> omega)
              have e : (a.tmps[10]?).getD undef = .int .i64 (k : Int) := by simpa using e0
              exact wpOp_of ho rfl (wp_value (w' := w') (by simp [execOp, e, go_sem, againVals]) ⟨_, rfl, Below.refl _ _, rfl⟩)
            ·
              have e10 : a.tmps.getD 62 undef = .slice (some ⟨g2, 0, none⟩) L.length c2 := hI.done 6 (by simp) (hdep ⟨6, .data⟩ (by simp) rfl)
              have e1 : (a.tmps[62]?).getD undef = .slice (some ⟨g2, 0, none⟩) L.length c2 := by simpa using e10
              have e20 : a.tmps.getD 63 undef = .int .i64 (k : Int) := hI.done 7 (by simp) (hdep ⟨7, .data⟩ (by simp) rfl)
              have e2 : (a.tmps[63]?).getD undef = .int .i64 (k : Int) := by simpa using e20
              exact wpOp_of ho rfl (wp_value (w' := w') (by simp [execOp, e1, e2, hlt, go_sem, againVals]) ⟨_, rfl, Below.refl _ _, rfl⟩)
            ·
              have e10 : a.tmps.getD 64 undef = .pointer (some ⟨g2, k * 3, none⟩) := hI.done 8 (by simp) (hdep ⟨8, .data⟩ (by simp) rfl)
              have e1 : (a.tmps[64]?).getD undef = .pointer (some ⟨g2, k * 3, none⟩) := by simpa using e10
              have d0' := (hbw.cell (p := ⟨g2, k * 3, none⟩) hg2).trans d0
              have d1' := (hbw.cell (p := ⟨g2, k * 3 + 1, none⟩) hg2).trans d1
              have d2' := (hbw.cell (p := ⟨g2, k * 3 + 2, none⟩) hg2).trans d2
              exact wpOp_of ho rfl (wp_value (w' := w') (by simp [execOp, e1, d0', d1', d2', tkV, go_sem, againVals]) ⟨_, rfl, Below.refl _ _, rfl⟩)
            ·
              have e10 : a.tmps.getD 65 undef = tkV L[k] := hI.done 9 (by simp) (hdep ⟨9, .data⟩ (by simp) rfl)
              have e1 : (a.tmps[65]?).getD undef = tkV L[k] := by simpa using e10
              refine wpOp_of ho rfl (wp_enter (f := 15) (args := #[tkV L[k]]) (w' := w') (by simp [execOp, resolve, invoke, e1, go_sem]) (text_any L[k] w' (by omega)) ?_)
              rintro e w'' ⟨rfl, hb⟩
              exact ⟨_, rfl, _, rfl, hb, rfl⟩
            ·
              have e10 : a.tmps.getD 61 undef = .string (o ++ bw) := hI.done 5 (by simp) (hdep ⟨5, .data⟩ (by simp) rfl)
              have e1 : (a.tmps[61]?).getD undef = .string (o ++ bw) := by simpa using e10
              have e20 : a.tmps.getD 66 undef = .string (txt L[k]) := hI.done 10 (by simp) (hdep ⟨10, .data⟩ (by simp) rfl)
              have e2 : (a.tmps[66]?).getD undef = .string (txt L[k]) := by simpa using e20
              exact wpOp_of ho rfl (wp_value (w' := w') (by simp [execOp, e1, e2, go_sem, againVals]; omega) ⟨_, rfl, Below.refl _ _, rfl⟩)
            ·
              have e10 : a.tmps.getD 67 undef = .string (o ++ bw ++ txt L[k]) := hI.done 11 (by simp) (hdep ⟨11, .data⟩ (by simp) rfl)
              have e1 : (a.tmps[67]?).getD undef = .string (o ++ bw ++ txt L[k]) := by simpa using e10
              exact wpOp_of ho rfl (wp_value (w' := w') (by simp [execOp, e1, go_sem, againVals]) ⟨_, rfl, Below.refl _ _, rfl⟩)
          case fin =>
            intro w3 hb3
            have hb3' : Below w2.heap.size w2 w3 := Hbel.out.trans (hb3.mono hzr)
            simp only [List.size_toArray, List.length_cons, List.length_nil, setAll, againD, againVals]
            simp
            have Hb3 := Lib.hid hb3'
            clear hb3 hb3'
            go_wp2_with fail
            go_roundw
            case rel =>
              refine ⟨k + 1, PL ++ [(bts bw, L[k])], o ++ bw ++ txt L[k], by go_num, by omega, rfl, ?_, ?_, ?_, ?_, Hb3.out⟩
              · rw [List.map_append, Hpl.out, List.take_succ_eq_append_getElem hlt]; rfl
              · intro p hp
                rcases List.mem_append.1 hp with hp | hp
                · exact Hbt.out p hp
                · rw [List.mem_singleton.1 hp]; exact hbb
              · rw [bts_add, bts_add, Hbo.out, bts_txt, glue_snoc, List.append_assoc]
              · simp only [ByteArray.size_append]; omega
            case measure => simp [intOf]; omega
        · have cj := Hcell.out _ 0 Hbel.out (by decide)
          have hj5 : 0 < 5 := by decide
          obtain ⟨bw, hbw⟩ : ∃ bw, bwS.getD 0 ⟨#[]⟩ = bw := ⟨_, rfl⟩
          have hbb := bwS_betw hj5
          rw [hbw] at cj hbb
          obtain ⟨hbb, hbz⟩ := hbb
          have hgd := Hgood.out k hlt
          have htx := txt_size L[k]
          clear hown
          go_wp2_with fail
          refine wp_region_vals (vals := againVals o bw w1.heap.size 0 k L.length c2 g2 L[k]) (D := againD) (by kernel_rfl) ?hs againD_inj ?step ?fin
          case hs =>
            intro i o' ho
            have hi13 : i < 13 := (Array.getElem?_eq_some_iff.1 ho).1
            rcases (by omega : i = 0 ∨ i = 1 ∨ i = 2 ∨ i = 3 ∨ i = 4 ∨ i = 5 ∨ i = 6 ∨ i = 7 ∨ i = 8 ∨ i = 9 ∨ i = 10 ∨ i = 11 ∨ i = 12) with rfl | rfl | rfl | rfl | rfl | rfl | rfl | rfl | rfl | rfl | rfl | rfl | rfl
            all_goals obtain rfl := Option.some.inj (show some _ = some o' from ho)
            all_goals exact ⟨by simp, rfl, by show againD _ < 122; decide⟩
          case step =>
            intro listed a w' i o' hI ho hl hdep
            have hi13 : i < 13 := (Array.getElem?_eq_some_iff.1 ho).1
            have hbw : Below wr.heap.size wr w' := ⟨hI.bel.os, hI.bel.tape, hI.bel.output, hI.bel.size, hI.bel.block⟩
            rcases (by omega : i = 0 ∨ i = 1 ∨ i = 2 ∨ i = 3 ∨ i = 4 ∨ i = 5 ∨ i = 6 ∨ i = 7 ∨ i = 8 ∨ i = 9 ∨ i = 10 ∨ i = 11 ∨ i = 12) with rfl | rfl | rfl | rfl | rfl | rfl | rfl | rfl | rfl | rfl | rfl | rfl | rfl
            all_goals obtain rfl := Option.some.inj (show some _ = some o' from ho)
            · have e0 : a.tmps.getD 9 undef = .string o := hI.before (k := 12) rfl ⟨⟨0, .phase⟩, by simp, rfl, rfl⟩ hl
              have e : (a.tmps[9]?).getD undef = .string o := by simpa using e0
              exact wpOp_of ho rfl (wp_value (w' := w') (by simp [execOp, e, go_sem, againVals]) ⟨_, rfl, Below.refl _ _, rfl⟩)
            · have e0 : a.tmps.getD 8 undef = .slice (some ⟨w1.heap.size, 0, none⟩) 5 5 := hI.fix 8 (by intro k hk; unfold againD; split <;> omega)
              have e : (a.tmps[8]?).getD undef = .slice (some ⟨w1.heap.size, 0, none⟩) 5 5 := by simpa using e0
              exact wpOp_of ho rfl (wp_value (w' := w') (by simp [execOp, e, go_sem, againVals]) ⟨_, rfl, Below.refl _ _, rfl⟩)
            · have e0 : a.tmps.getD 11 undef = .int .i64 (0 : Int) := hI.fix 11 (by intro k hk; unfold againD; split <;> omega)
              have e : (a.tmps[11]?).getD undef = .int .i64 (0 : Int) := by simpa using e0
              exact wpOp_of ho rfl (wp_value (w' := w') (by simp [execOp, e, go_sem, againVals]) ⟨_, rfl, Below.refl _ _, rfl⟩)
            ·
              have e10 : a.tmps.getD 57 undef = .slice (some ⟨w1.heap.size, 0, none⟩) 5 5 := hI.done 1 (by simp) (hdep ⟨1, .data⟩ (by simp) rfl)
              have e1 : (a.tmps[57]?).getD undef = .slice (some ⟨w1.heap.size, 0, none⟩) 5 5 := by simpa using e10
              have e20 : a.tmps.getD 58 undef = .int .i64 (0 : Int) := hI.done 2 (by simp) (hdep ⟨2, .data⟩ (by simp) rfl)
              have e2 : (a.tmps[58]?).getD undef = .int .i64 (0 : Int) := by simpa using e20
              have hj5' : ¬ (5 : Int) ≤ (0 : Int) := by omega
              exact wpOp_of ho rfl (wp_value (w' := w') (by simp [execOp, e1, e2, hj5', go_sem, againVals]) ⟨_, rfl, Below.refl _ _, rfl⟩)
            ·
              have e10 : a.tmps.getD 59 undef = .pointer (some ⟨w1.heap.size, 0, none⟩) := hI.done 3 (by simp) (hdep ⟨3, .data⟩ (by simp) rfl)
              have e1 : (a.tmps[59]?).getD undef = .pointer (some ⟨w1.heap.size, 0, none⟩) := by simpa using e10
              have cj' := (hbw.cell (p := ⟨w1.heap.size, 0, none⟩) (by show w1.heap.size < wr.heap.size; omega)).trans cj
              exact wpOp_of ho rfl (wp_value (w' := w') (by simp [execOp, e1, cj', go_sem, againVals]) ⟨_, rfl, Below.refl _ _, rfl⟩)
            ·
              have e10 : a.tmps.getD 56 undef = .string o := hI.done 0 (by simp) (hdep ⟨0, .data⟩ (by simp) rfl)
              have e1 : (a.tmps[56]?).getD undef = .string o := by simpa using e10
              have e20 : a.tmps.getD 60 undef = .string bw := hI.done 4 (by simp) (hdep ⟨4, .data⟩ (by simp) rfl)
              have e2 : (a.tmps[60]?).getD undef = .string bw := by simpa using e20
              exact wpOp_of ho rfl (wp_value (w' := w') (by simp [execOp, e1, e2, go_sem, againVals]; omega) ⟨_, rfl, Below.refl _ _, rfl⟩)
            · have e0 : a.tmps.getD 5 undef = .slice (some ⟨g2, 0, none⟩) L.length c2 := (hI.fix 5 (by intro k hk; unfold againD; split <;> omega)).trans (by simp)
              have e : (a.tmps[5]?).getD undef = .slice (some ⟨g2, 0, none⟩) L.length c2 := by simpa using e0
              exact wpOp_of ho rfl (wp_value (w' := w') (by simp [execOp, e, go_sem, againVals]) ⟨_, rfl, Below.refl _ _, rfl⟩)
            · have e0 : a.tmps.getD 10 undef = .int .i64 (k : Int) := hI.fix 10 (by intro k hk; unfold againD; split <;> omega)
              have e : (a.tmps[10]?).getD undef = .int .i64 (k : Int) := by simpa using e0
              exact wpOp_of ho rfl (wp_value (w' := w') (by simp [execOp, e, go_sem, againVals]) ⟨_, rfl, Below.refl _ _, rfl⟩)
            ·
              have e10 : a.tmps.getD 62 undef = .slice (some ⟨g2, 0, none⟩) L.length c2 := hI.done 6 (by simp) (hdep ⟨6, .data⟩ (by simp) rfl)
              have e1 : (a.tmps[62]?).getD undef = .slice (some ⟨g2, 0, none⟩) L.length c2 := by simpa using e10
              have e20 : a.tmps.getD 63 undef = .int .i64 (k : Int) := hI.done 7 (by simp) (hdep ⟨7, .data⟩ (by simp) rfl)
              have e2 : (a.tmps[63]?).getD undef = .int .i64 (k : Int) := by simpa using e20
              exact wpOp_of ho rfl (wp_value (w' := w') (by simp [execOp, e1, e2, hlt, go_sem, againVals]) ⟨_, rfl, Below.refl _ _, rfl⟩)
            ·
              have e10 : a.tmps.getD 64 undef = .pointer (some ⟨g2, k * 3, none⟩) := hI.done 8 (by simp) (hdep ⟨8, .data⟩ (by simp) rfl)
              have e1 : (a.tmps[64]?).getD undef = .pointer (some ⟨g2, k * 3, none⟩) := by simpa using e10
              have d0' := (hbw.cell (p := ⟨g2, k * 3, none⟩) hg2).trans d0
              have d1' := (hbw.cell (p := ⟨g2, k * 3 + 1, none⟩) hg2).trans d1
              have d2' := (hbw.cell (p := ⟨g2, k * 3 + 2, none⟩) hg2).trans d2
              exact wpOp_of ho rfl (wp_value (w' := w') (by simp [execOp, e1, d0', d1', d2', tkV, go_sem, againVals]) ⟨_, rfl, Below.refl _ _, rfl⟩)
            ·
              have e10 : a.tmps.getD 65 undef = tkV L[k] := hI.done 9 (by simp) (hdep ⟨9, .data⟩ (by simp) rfl)
              have e1 : (a.tmps[65]?).getD undef = tkV L[k] := by simpa using e10
              refine wpOp_of ho rfl (wp_enter (f := 15) (args := #[tkV L[k]]) (w' := w') (by simp [execOp, resolve, invoke, e1, go_sem]) (text_any L[k] w' (by omega)) ?_)
              rintro e w'' ⟨rfl, hb⟩
              exact ⟨_, rfl, _, rfl, hb, rfl⟩
            ·
              have e10 : a.tmps.getD 61 undef = .string (o ++ bw) := hI.done 5 (by simp) (hdep ⟨5, .data⟩ (by simp) rfl)
              have e1 : (a.tmps[61]?).getD undef = .string (o ++ bw) := by simpa using e10
              have e20 : a.tmps.getD 66 undef = .string (txt L[k]) := hI.done 10 (by simp) (hdep ⟨10, .data⟩ (by simp) rfl)
              have e2 : (a.tmps[66]?).getD undef = .string (txt L[k]) := by simpa using e20
              exact wpOp_of ho rfl (wp_value (w' := w') (by simp [execOp, e1, e2, go_sem, againVals]; omega) ⟨_, rfl, Below.refl _ _, rfl⟩)
            ·
              have e10 : a.tmps.getD 67 undef = .string (o ++ bw ++ txt L[k]) := hI.done 11 (by simp) (hdep ⟨11, .data⟩ (by simp) rfl)
              have e1 : (a.tmps[67]?).getD undef = .string (o ++ bw ++ txt L[k]) := by simpa using e10
              exact wpOp_of ho rfl (wp_value (w' := w') (by simp [execOp, e1, go_sem, againVals]) ⟨_, rfl, Below.refl _ _, rfl⟩)
          case fin =>
            intro w3 hb3
            have hb3' : Below w2.heap.size w2 w3 := Hbel.out.trans (hb3.mono hzr)
            simp only [List.size_toArray, List.length_cons, List.length_nil, setAll, againD, againVals]
            simp
            have Hb3 := Lib.hid hb3'
            clear hb3 hb3'
            go_wp2_with fail
            go_roundw
            case rel =>
              refine ⟨k + 1, PL ++ [(bts bw, L[k])], o ++ bw ++ txt L[k], by go_num, by omega, rfl, ?_, ?_, ?_, ?_, Hb3.out⟩
              · rw [List.map_append, Hpl.out, List.take_succ_eq_append_getElem hlt]; rfl
              · intro p hp
                rcases List.mem_append.1 hp with hp | hp
                · exact Hbt.out p hp
                · rw [List.mem_singleton.1 hp]; exact hbb
              · rw [bts_add, bts_add, Hbo.out, bts_txt, glue_snoc, List.append_assoc]
              · simp only [ByteArray.size_append]; omega
            case measure => simp [intOf]; omega
      · have hkl : k = L.length := by omega
        subst hkl
        have hpl := Hpl.out
        rw [List.take_length] at hpl
        have hz3 : 0 < wr.heap.size := by omega
        have hmr := cell_keep Hbel.out (by omega) (cell_keep Hb2.out (by omega) (cell_keep Hb1.out hz Hm.out))
        have Hmr := Lib.hid hmr
        have hB : Below w.heap.size w wr := (Hb1.out.trans (Hb2.out.mono hz1)).trans (Hbel.out.mono (by omega))
        have HB := Lib.hid hB
        clear hmr hB
        by_cases ho8 : o.size ≤ 8000
        · have hac := again_cut (s := s) (out := o) (T := T) (P := PL) (fun t ht => (Hg.out t ht).1) (by rw [hpl]; exact HT.out) Hbt.out Hbo.out ho8
          rw [← HT.out] at hac
          obtain ⟨M, hM, hML, hMe⟩ := hac
          have hown := (Hown1.out.low Hb2.out).low Hbel.out
          have HM := Lib.hid hM
          have HMe := Lib.hid hMe
          have Hown := Lib.hid hown
          clear hM hMe hown hpl Hown1
          go_upto_region 14 with (go_at_call 7
                                  refine (cut_any o m _ Hmr.out).mono ?_
                                  rintro e w3 ⟨v3, rfl, hown3, hb3⟩
                                  rw [HM.out] at hown3 ⊢
                                  have Hown3 := Lib.hid hown3
                                  have Hb3 := Lib.hid hb3
                                  clear hown3 hb3)
          have hz33 := Hb3.out.size
          obtain ⟨A3, c3, hv3, hc3, hm3⟩ := Hown3.out.form
          rw [List.length_map, hML] at hc3 hv3
          subst hv3
          unfold maxLen at hm3
          have hL3 := Hown.out.low Hb3.out
          have HL3 := Lib.hid hL3
          clear hL3 Hown
          go_wp2_with fail
          go_loopw [15] (fun iv wr3 => ∃ k : Nat, iv = .int .i64 k ∧ k ≤ L.length ∧ Below w3.heap.size w3 wr3) (fun i _ => L.length - (intOf i).toNat)
          case atStart => exact ⟨0, rfl, Nat.zero_le _, Below.refl _ _⟩
          case round =>
            obtain ⟨k, rfl, hk3, hbel3⟩ := hrel
            have Hbel3 := Lib.hid hbel3
            have hz44 := hbel3.size
            clear hbel3
            by_cases hlt3 : k < L.length
            · obtain ⟨g2, rfl, hg2, d0, d1, d2⟩ := tk_at (HL3.out.low Hbel3.out) hlt3
              obtain ⟨g3, rfl, hg3, a0, a1, a2⟩ := tk_at (k := k) (Hown3.out.low Hbel3.out) (by rw [hML]; exact hlt3)
              obtain ⟨hk1, hk2⟩ := HMe.out k (by rw [hML]; exact hlt3) hlt3
              rw [hk1] at a0
              rw [hk2] at a1
              have qs : (L[k].text.toList == L[k].text.toList) = true := by simp
              have qt : (L[k].text.toList != L[k].text.toList) = false := by simp
              clear d2 a2 hk1 hk2
              go_wp2_with fail
              go_quiet (fail)
              go_wp2_with fail
              go_roundw
              case rel => exact ⟨k + 1, by go_num, by omega, drewN_low Hbel3.out _⟩
              case measure => simp [intOf]; omega
            · go_wp2_with (go_at_call 10
                           refine (wakes_any m _ (cell_keep Hbel3.out (by omega) (cell_keep Hb3.out hz3 Hmr.out))).mono ?_
                           rintro e w4 ⟨rfl, hb4⟩)
              go_ret
              exact ⟨rfl, (HB.out.trans (Hb3.out.mono (by omega))).trans ((Hbel3.out.mono (by omega)).trans (hb4.mono (by omega)))⟩
        · have hM : cutR o = ([], 0, 3) := by unfold cutR; rw [if_pos (by omega)]
          have HM := Lib.hid hM
          clear hM hpl
          go_wp2_with (first
            | (go_at_call 7
               refine (cut_any o m _ Hmr.out).mono ?_
               rintro e w3 ⟨v3, rfl, hown3, hb3⟩
               rw [HM.out] at hown3 ⊢
               have Hb3 := Lib.hid hb3
               have hz33 := hb3.size
               clear hown3 hb3)
            | (go_at_call 10
               refine (wakes_any m _ (cell_keep Hb3.out hz3 Hmr.out)).mono ?_
               rintro e w4 ⟨rfl, hb4⟩))
          go_ret
          exact ⟨rfl, (HB.out.trans (Hb3.out.mono (by omega))).trans (hb4.mono (by omega))⟩
  · have hnil := cut_bad hc her
    subst hnil
    have q : ((er : Int) != 0) = true := by rw [bne_iff_ne]; omega
    have Hc := Lib.hid hc
    clear hr hx hm hc her
    go_enter Try.func5, Try.ntmps5
    go_upto_region 2 with (go_at_call 7
                           refine (cut_any s m _ Hm.out).mono ?_
                           rintro e w1 ⟨v1, rfl, hown1, hb1⟩
                           rw [Hc.out] at hown1 ⊢
                           have Hown1 := Lib.hid hown1
                           have Hb1 := Lib.hid hb1
                           clear hown1 hb1)
    have hz1 := Hb1.out.size
    obtain ⟨A2, c2, rfl, hc2, hm2⟩ := Hown1.out.form
    unfold maxLen at hm2
    go_wp2_with (go_at_call 10
                 refine (wakes_any m _ (cell_keep Hb1.out hz Hm.out)).mono ?_
                 rintro e w4 ⟨rfl, hb4⟩)
    go_ret
    exact ⟨rfl, Hb1.out.trans (hb4.mono hz1)⟩

end Go.Proofs.Ytgmoneimfnackaa
