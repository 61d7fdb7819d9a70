/-
  'syllogismtop.TopOrders' returns true for every input whose arguments together hold at most 1048576 values, and leaves what it was handed as it was. No condition but that one; axioms: propext, Classical.choice, Quot.sound.
-/
import Derived.Test.YtbkpkahhdlomiaaGreatME
import Derived.Test.YtbkpkahhdlomiaaGreatMB
import Derived.Test.YtbkpkahhdlomiaaGreatRows
import Derived.ProofKit
import Derived.HandedShaped
import Derived.OpenShut
import Derived.JoinedCond
set_option maxRecDepth 100000
set_option maxHeartbeats 8000000
set_option linter.unusedSimpArgs false
set_option linter.unusedVariables false
namespace Go.Proofs.YtbkpkahhdlomiaaGreat
open Go.RowKit
theorem check04_any (l : Sb) (vl : Value) (B : Nat) (w : World) (hr : Rd w B (encSb l) vl) (hB : B ≤ w.heap.size) :
 Calls Tryz.prog 7 #[vl] w (SomeInt w) := by
 obtain ⟨A, c, rfl, -, hn, -⟩ := Rd.row_form hr
 have HR := Lh hr
 clear hr
 go_enter Tryz.func7, Tryz.ntmps7
 go_wp2_with fail
 go_loopw [3] (fun i wr => ∃ k : Nat, k ≤ l.length ∧ i = .int .i64 k ∧ Below w.heap.size w wr) (fun i _ => l.length - (intOf i).toNat)
 case atStart => exact ⟨0, Nat.zero_le _, rfl, Below.refl _ _⟩
 obtain ⟨k, hk, rfl, hbel⟩ := hrel
 have hzr := hbel.size
 have Hbel := Lh hbel
 clear hbel
 by_cases hlt : k < l.length
 · have hlt2 : ¬ ((l.length : Int) ≤ (k : Int)) := by omega
   obtain ⟨ab, off, x, f, ys, A2, c2, hA, -, hab, k0, k1', k2, -⟩ := (HR.out.low Hbel.out hB).bd_at hlt
   subst hA
   have hit := fun (w' : World) => itself_any f ys x A2 c2 w'
   obtain ⟨res, hres⟩ : ∃ b, ((f == wrap64 (-1 - x)) && ((ys.length : Int) == 0)) = b := ⟨_, rfl⟩
   rw [hres] at hit
   have Hit := Lh hit
   have K0 := Lh k0
   have K1 := Lh k1'
   have K2 := Lh k2
   clear hres hit k0 k1' k2
   by_cases hx : x < 0
   · have h5 : x < 0 := hx
     obtain ⟨k1, hk1e⟩ : ∃ k1 : Nat, k1 = 0 := ⟨_, rfl⟩
     obtain ⟨y, hye⟩ : ∃ y : Int, y = 0 := ⟨_, rfl⟩
     have Y0 := trivial
     have H8 := Lh trivial
     have h17 := trivial
     have h21 := trivial
     have hk1 := trivial
     have hk1n := trivial
     clear hk1e hye
     go_upto_region 4 with fail
     refine bu 37 (fun w' => Below wr.heap.size wr w') (fun wd hwd hbd => ?_) ?_
     · exact hwd ▸ hbd
     refine pu 0 (.slice (some ⟨ab, off, none⟩) l.length c) ?_
     refine pu 1 (.int .i64 (k : Nat)) ?_
     refine ru 2 (.pointer (some ⟨ab, off + k * 3, none⟩)) (fun w' hw => ?_) ?_
     · simp [execOp, go_sem, hlt, hlt2]
     refine pu 3 (.pointer (some ⟨ab, off + k * 3, none⟩)) ?_
     refine ru 4 (.int .i64 x) (fun w' hw => ?_) ?_
     · have o4 := (hw.cell (p := ⟨ab, off + k * 3, none⟩) (show ab < wr.heap.size by omega)).trans K0.out
       simp [execOp, go_sem, o4]
     refine ru 5 (.bool true) (fun w' hw => ?_) ?_
     · simp [execOp, go_sem, h5]
     refine pu 6 (.bool true) ?_
     refine su 7 ?_
     refine su 8 ?_
     refine su 9 ?_
     refine su 10 ?_
     refine su 11 ?_
     refine su 12 ?_
     refine su 13 ?_
     refine su 14 ?_
     refine su 15 ?_
     refine su 16 ?_
     refine su 17 ?_
     refine su 18 ?_
     refine su 19 ?_
     refine su 20 ?_
     refine su 21 ?_
     refine su 22 ?_
     refine pu 23 (.bool true) ?_
     refine pu 24 (.bool true) ?_
     refine su 25 ?_
     refine su 26 ?_
     refine su 27 ?_
     refine su 28 ?_
     refine su 29 ?_
     refine su 30 ?_
     refine su 31 ?_
     refine su 32 ?_
     refine su 33 ?_
     refine su 34 ?_
     refine su 35 ?_
     refine pu 36 (.bool true) ?_
     refine du (fun wz hS => ?_)
     have HS4 := Lh hS
     have hbz := hS.size
     clear hS
     go_wp2_with fail
     go_ret
     exact ⟨2, rfl, Hbel.out.trans (HS4.out.mono (by omega))⟩
   have h5 : ¬ x < 0 := hx
   by_cases hk0 : k = 0
   · have H8 := Lh hk0
     obtain ⟨k1, hk1e⟩ : ∃ k1 : Nat, k1 = 0 := ⟨_, rfl⟩
     obtain ⟨y, hye⟩ : ∃ y : Int, y = 0 := ⟨_, rfl⟩
     have Y0 := trivial
     have h17 := trivial
     have h21 := trivial
     have hk1 := trivial
     have hk1n := trivial
     clear hk1e hye hk0
     go_upto_region 4 with fail
     refine bu 37 (fun w' => Below wr.heap.size wr w') (fun wd hwd hbd => ?_) ?_
     · exact hwd ▸ hbd
     refine pu 0 (.slice (some ⟨ab, off, none⟩) l.length c) ?_
     refine pu 1 (.int .i64 (k : Nat)) ?_
     refine ru 2 (.pointer (some ⟨ab, off + k * 3, none⟩)) (fun w' hw => ?_) ?_
     · simp [execOp, go_sem, hlt, hlt2]
     refine pu 3 (.pointer (some ⟨ab, off + k * 3, none⟩)) ?_
     refine ru 4 (.int .i64 x) (fun w' hw => ?_) ?_
     · have o4 := (hw.cell (p := ⟨ab, off + k * 3, none⟩) (show ab < wr.heap.size by omega)).trans K0.out
       simp [execOp, go_sem, o4]
     refine ru 5 (.bool false) (fun w' hw => ?_) ?_
     · simp [execOp, go_sem, h5]
     refine pu 6 (.bool false) ?_
     refine pu 7 (.int .i64 (k : Nat)) ?_
     refine ru 8 (.bool false) (fun w' hw => ?_) ?_
     · simp [execOp, go_sem, H8.out]
     refine pu 9 (.bool false) ?_
     refine su 10 ?_
     refine su 11 ?_
     refine su 12 ?_
     refine su 13 ?_
     refine su 14 ?_
     refine su 15 ?_
     refine su 16 ?_
     refine su 17 ?_
     refine su 18 ?_
     refine su 19 ?_
     refine su 20 ?_
     refine su 21 ?_
     refine pu 22 (.bool false) ?_
     refine pu 23 (.bool false) ?_
     refine pu 24 (.bool false) ?_
     refine pu 25 (.slice (some ⟨ab, off, none⟩) l.length c) ?_
     refine pu 26 (.int .i64 (k : Nat)) ?_
     refine ru 27 (.pointer (some ⟨ab, off + k * 3, none⟩)) (fun w' hw => ?_) ?_
     · simp [execOp, go_sem, hlt, hlt2]
     refine pu 28 (.pointer (some ⟨ab, off + k * 3 + 1, none⟩)) ?_
     refine ru 29 (.agg #[.int .i64 f, .slice A2 ys.length c2]) (fun w' hw => ?_) ?_
     · have o5 := (hw.cell (p := ⟨ab, off + k * 3 + 1, none⟩) (show ab < wr.heap.size by omega)).trans K1.out
       have o6 := (hw.cell (p := ⟨ab, off + k * 3 + 2, none⟩) (show ab < wr.heap.size by omega)).trans K2.out
       simp [execOp, go_sem, o5, o6]
     refine pu 30 (.slice (some ⟨ab, off, none⟩) l.length c) ?_
     refine pu 31 (.int .i64 (k : Nat)) ?_
     refine ru 32 (.pointer (some ⟨ab, off + k * 3, none⟩)) (fun w' hw => ?_) ?_
     · simp [execOp, go_sem, hlt, hlt2]
     refine pu 33 (.pointer (some ⟨ab, off + k * 3, none⟩)) ?_
     refine ru 34 (.int .i64 x) (fun w' hw => ?_) ?_
     · have o4 := (hw.cell (p := ⟨ab, off + k * 3, none⟩) (show ab < wr.heap.size by omega)).trans K0.out
       simp [execOp, go_sem, o4]
     refine cu 35 (.bool res) (fun w' hw => (Hit.out w').mono ?_) ?_
     · rintro e w2 ⟨rfl, hb⟩
       exact ⟨rfl, hw.trans (hb.mono hw.size)⟩
     refine pu 36 (.bool res) ?_
     refine du (fun wz hS => ?_)
     have HS4 := Lh hS
     have hbz := hS.size
     clear hS
     cases res with
     | true =>
       go_wp2_with fail
       go_ret
       exact ⟨2, rfl, Hbel.out.trans (HS4.out.mono (by omega))⟩
     | false =>
       go_wp2_with fail
       go_roundw
       case rel => exact ⟨k + 1, by omega, by go_num, Hbel.out.trans (HS4.out.mono (by omega))⟩
       case measure => simp [intOf]; omega
   have H8 := Lh (show 0 < k by omega)
   obtain ⟨k1, hk1e⟩ : ∃ k1 : Nat, k = k1 + 1 := ⟨k - 1, by omega⟩
   have hk1 : k1 < l.length := by omega
   have hk1n : ¬ ((l.length : Int) ≤ (k1 : Int)) := by omega
   obtain ⟨ab', off', y, f', ys', A2', c2', hA', -, -, y0, -, -, -⟩ := (HR.out.low Hbel.out hB).bd_at hk1
   injection hA' with hA'
   injection hA' with e1 e2
   subst e1 e2
   have h17 : IntKind.i64.wrap ((k : Int) - 1) = (k1 : Int) := by rw [wr64 _ (by omega)]; omega
   have Y0 := Lh y0
   clear y0 hk0 hk1e
   by_cases hxy : x ≤ y
   · have h21 := hxy
     go_upto_region 4 with fail
     refine bu 37 (fun w' => Below wr.heap.size wr w') (fun wd hwd hbd => ?_) ?_
     · exact hwd ▸ hbd
     refine pu 0 (.slice (some ⟨ab, off, none⟩) l.length c) ?_
     refine pu 1 (.int .i64 (k : Nat)) ?_
     refine ru 2 (.pointer (some ⟨ab, off + k * 3, none⟩)) (fun w' hw => ?_) ?_
     · simp [execOp, go_sem, hlt, hlt2]
     refine pu 3 (.pointer (some ⟨ab, off + k * 3, none⟩)) ?_
     refine ru 4 (.int .i64 x) (fun w' hw => ?_) ?_
     · have o4 := (hw.cell (p := ⟨ab, off + k * 3, none⟩) (show ab < wr.heap.size by omega)).trans K0.out
       simp [execOp, go_sem, o4]
     refine ru 5 (.bool false) (fun w' hw => ?_) ?_
     · simp [execOp, go_sem, h5]
     refine pu 6 (.bool false) ?_
     refine pu 7 (.int .i64 (k : Nat)) ?_
     refine ru 8 (.bool true) (fun w' hw => ?_) ?_
     · simp [execOp, go_sem, H8.out]
     refine pu 9 (.bool true) ?_
     refine pu 10 (.slice (some ⟨ab, off, none⟩) l.length c) ?_
     refine pu 11 (.int .i64 (k : Nat)) ?_
     refine ru 12 (.pointer (some ⟨ab, off + k * 3, none⟩)) (fun w' hw => ?_) ?_
     · simp [execOp, go_sem, hlt, hlt2]
     refine pu 13 (.pointer (some ⟨ab, off + k * 3, none⟩)) ?_
     refine ru 14 (.int .i64 x) (fun w' hw => ?_) ?_
     · have o4 := (hw.cell (p := ⟨ab, off + k * 3, none⟩) (show ab < wr.heap.size by omega)).trans K0.out
       simp [execOp, go_sem, o4]
     refine pu 15 (.slice (some ⟨ab, off, none⟩) l.length c) ?_
     refine pu 16 (.int .i64 (k : Nat)) ?_
     refine ru 17 (.int .i64 (k1 : Nat)) (fun w' hw => ?_) ?_
     · simp [execOp, go_sem, h17]
     refine ru 18 (.pointer (some ⟨ab, off + k1 * 3, none⟩)) (fun w' hw => ?_) ?_
     · simp [execOp, go_sem, hk1, hk1n]
     refine pu 19 (.pointer (some ⟨ab, off + k1 * 3, none⟩)) ?_
     refine ru 20 (.int .i64 y) (fun w' hw => ?_) ?_
     · have o20 := (hw.cell (p := ⟨ab, off + k1 * 3, none⟩) (show ab < wr.heap.size by omega)).trans Y0.out
       simp [execOp, go_sem, o20]
     refine ru 21 (.bool true) (fun w' hw => ?_) ?_
     · simp [execOp, go_sem, h21]
     refine pu 22 (.bool true) ?_
     refine pu 23 (.bool true) ?_
     refine pu 24 (.bool true) ?_
     refine su 25 ?_
     refine su 26 ?_
     refine su 27 ?_
     refine su 28 ?_
     refine su 29 ?_
     refine su 30 ?_
     refine su 31 ?_
     refine su 32 ?_
     refine su 33 ?_
     refine su 34 ?_
     refine su 35 ?_
     refine pu 36 (.bool true) ?_
     refine du (fun wz hS => ?_)
     have HS4 := Lh hS
     have hbz := hS.size
     clear hS
     go_wp2_with fail
     go_ret
     exact ⟨2, rfl, Hbel.out.trans (HS4.out.mono (by omega))⟩
   have h21 := hxy
   go_upto_region 4 with fail
   refine bu 37 (fun w' => Below wr.heap.size wr w') (fun wd hwd hbd => ?_) ?_
   · exact hwd ▸ hbd
   refine pu 0 (.slice (some ⟨ab, off, none⟩) l.length c) ?_
   refine pu 1 (.int .i64 (k : Nat)) ?_
   refine ru 2 (.pointer (some ⟨ab, off + k * 3, none⟩)) (fun w' hw => ?_) ?_
   · simp [execOp, go_sem, hlt, hlt2]
   refine pu 3 (.pointer (some ⟨ab, off + k * 3, none⟩)) ?_
   refine ru 4 (.int .i64 x) (fun w' hw => ?_) ?_
   · have o4 := (hw.cell (p := ⟨ab, off + k * 3, none⟩) (show ab < wr.heap.size by omega)).trans K0.out
     simp [execOp, go_sem, o4]
   refine ru 5 (.bool false) (fun w' hw => ?_) ?_
   · simp [execOp, go_sem, h5]
   refine pu 6 (.bool false) ?_
   refine pu 7 (.int .i64 (k : Nat)) ?_
   refine ru 8 (.bool true) (fun w' hw => ?_) ?_
   · simp [execOp, go_sem, H8.out]
   refine pu 9 (.bool true) ?_
   refine pu 10 (.slice (some ⟨ab, off, none⟩) l.length c) ?_
   refine pu 11 (.int .i64 (k : Nat)) ?_
   refine ru 12 (.pointer (some ⟨ab, off + k * 3, none⟩)) (fun w' hw => ?_) ?_
   · simp [execOp, go_sem, hlt, hlt2]
   refine pu 13 (.pointer (some ⟨ab, off + k * 3, none⟩)) ?_
   refine ru 14 (.int .i64 x) (fun w' hw => ?_) ?_
   · have o4 := (hw.cell (p := ⟨ab, off + k * 3, none⟩) (show ab < wr.heap.size by omega)).trans K0.out
     simp [execOp, go_sem, o4]
   refine pu 15 (.slice (some ⟨ab, off, none⟩) l.length c) ?_
   refine pu 16 (.int .i64 (k : Nat)) ?_
   refine ru 17 (.int .i64 (k1 : Nat)) (fun w' hw => ?_) ?_
   · simp [execOp, go_sem, h17]
   refine ru 18 (.pointer (some ⟨ab, off + k1 * 3, none⟩)) (fun w' hw => ?_) ?_
   · simp [execOp, go_sem, hk1, hk1n]
   refine pu 19 (.pointer (some ⟨ab, off + k1 * 3, none⟩)) ?_
   refine ru 20 (.int .i64 y) (fun w' hw => ?_) ?_
   · have o20 := (hw.cell (p := ⟨ab, off + k1 * 3, none⟩) (show ab < wr.heap.size by omega)).trans Y0.out
     simp [execOp, go_sem, o20]
   refine ru 21 (.bool false) (fun w' hw => ?_) ?_
   · simp [execOp, go_sem, h21]
   refine pu 22 (.bool false) ?_
   refine pu 23 (.bool false) ?_
   refine pu 24 (.bool false) ?_
   refine pu 25 (.slice (some ⟨ab, off, none⟩) l.length c) ?_
   refine pu 26 (.int .i64 (k : Nat)) ?_
   refine ru 27 (.pointer (some ⟨ab, off + k * 3, none⟩)) (fun w' hw => ?_) ?_
   · simp [execOp, go_sem, hlt, hlt2]
   refine pu 28 (.pointer (some ⟨ab, off + k * 3 + 1, none⟩)) ?_
   refine ru 29 (.agg #[.int .i64 f, .slice A2 ys.length c2]) (fun w' hw => ?_) ?_
   · have o5 := (hw.cell (p := ⟨ab, off + k * 3 + 1, none⟩) (show ab < wr.heap.size by omega)).trans K1.out
     have o6 := (hw.cell (p := ⟨ab, off + k * 3 + 2, none⟩) (show ab < wr.heap.size by omega)).trans K2.out
     simp [execOp, go_sem, o5, o6]
   refine pu 30 (.slice (some ⟨ab, off, none⟩) l.length c) ?_
   refine pu 31 (.int .i64 (k : Nat)) ?_
   refine ru 32 (.pointer (some ⟨ab, off + k * 3, none⟩)) (fun w' hw => ?_) ?_
   · simp [execOp, go_sem, hlt, hlt2]
   refine pu 33 (.pointer (some ⟨ab, off + k * 3, none⟩)) ?_
   refine ru 34 (.int .i64 x) (fun w' hw => ?_) ?_
   · have o4 := (hw.cell (p := ⟨ab, off + k * 3, none⟩) (show ab < wr.heap.size by omega)).trans K0.out
     simp [execOp, go_sem, o4]
   refine cu 35 (.bool res) (fun w' hw => (Hit.out w').mono ?_) ?_
   · rintro e w2 ⟨rfl, hb⟩
     exact ⟨rfl, hw.trans (hb.mono hw.size)⟩
   refine pu 36 (.bool res) ?_
   refine du (fun wz hS => ?_)
   have HS4 := Lh hS
   have hbz := hS.size
   clear hS
   cases res with
   | true =>
     go_wp2_with fail
     go_ret
     exact ⟨2, rfl, Hbel.out.trans (HS4.out.mono (by omega))⟩
   | false =>
     go_wp2_with fail
     go_roundw
     case rel => exact ⟨k + 1, by omega, by go_num, Hbel.out.trans (HS4.out.mono (by omega))⟩
     case measure => simp [intOf]; omega
 go_wp2_with fail
 go_ret
 exact ⟨0, rfl, Hbel.out⟩
def arS (sig : List Sy) (f : Int) : Option Nat := if 0 ≤ f then (sig[f.toNat]?).map fun s => s.ar.toNat else none
theorem arS_some {sig : List Sy} {f : Int} (h0 : 0 ≤ f) (h : arS sig f ≠ none) : f.toNat < sig.length := by
 unfold arS at h
 rw [if_pos h0] at h
 by_cases hl : f.toNat < sig.length
 · exact hl
 rw [List.getElem?_eq_none (by omega)] at h
 exact absurd rfl h
theorem arS_at {sig : List Sy} {f : Int} {n : Nat} (h : arS sig f = some n) : ∃ hl : f.toNat < sig.length, 0 ≤ f ∧ sig[f.toNat].ar.toNat = n := by
 unfold arS at h
 by_cases h0 : 0 ≤ f
 · rw [if_pos h0] at h
   by_cases hl : f.toNat < sig.length
   · rw [List.getElem?_eq_getElem hl] at h
     exact ⟨hl, h0, Option.some.inj h⟩
   rw [List.getElem?_eq_none (by omega)] at h
   cases h
 rw [if_neg h0] at h
 cases h
theorem foldl_max_le : ∀ (l : List Int) (a : Int), a ≤ l.foldl max a ∧ ∀ x ∈ l, x ≤ l.foldl max a
 | [], a => ⟨Int.le_refl _, fun x h => by cases h⟩
 | y :: ys, a => by
   obtain ⟨h1, h2⟩ := foldl_max_le ys (max a y)
   rw [List.foldl_cons]
   refine ⟨by omega, fun x hx => ?_⟩
   rcases List.mem_cons.1 hx with rfl | hx
   · omega
   exact h2 x hx
theorem le_maxOf {l : List Int} {x : Int} (h : x ∈ l) : x ≤ Lib.maxOf l := (foldl_max_le l _).2 x h
section
variable {sig : List Sy} {lp tp : Bool} {p q : Int} {o : Od}
theorem bOf_pos {ari cnt : Nat → Int} {P : List Int} {j : Nat} (ha : 0 ≤ ari j ∧ ari j ≤ 1000) (hc : ∀ j, 0 ≤ cnt j) (hP : ∀ x ∈ P, 0 ≤ x) : 1 ≤ bOf ari cnt P q j := by
 unfold bOf
 split
 · exact Int.le_refl _
 split
 · rw [wr64 _ (by omega)]; omega
 split
 · rw [List.getD_eq_getElem?_getD]
   by_cases hl : j < P.length
   · rw [List.getElem?_eq_getElem hl]
     have := hP _ (List.getElem_mem hl)
     simp only [Option.getD_some]
     omega
   rw [List.getElem?_eq_none (by omega)]
   simp
 have := hc j; omega
theorem ariOf_at {j : Nat} (hj : j < sig.length) : ariOf sig j = sig[j].ar := by simp [ariOf, List.getElem?_eq_getElem hj]
theorem made_knows (h : MkS sig.length (ariOf sig) lp p q tp o) : Knows (arS sig) o := by
 obtain ⟨dl, hd, hr, -⟩ := h.rk
 refine ⟨fun f n h0 hf => ?_, fun hl => ?_⟩
 · obtain ⟨hl, -, -⟩ := arS_at hf
   rw [hr.len]; omega
 obtain ⟨-, cnt, -, hw⟩ := h.wts (by rw [← h.lpo]; exact hl)
 rw [hw, List.length_map, List.length_range, hr.len]
theorem made_kod (h : MkS sig.length (ariOf sig) lp p q tp o) (ha : ArOk sig) : OOd (arS sig) o := by
 refine ⟨made_knows h, fun hl => ?_⟩
 obtain ⟨dl, hd, hr, -⟩ := h.rk
 obtain ⟨hv, cnt, hc, hw⟩ := h.wts (by rw [← h.lpo]; exact hl)
 refine ⟨made_knows h, hl, hv, fun k hk => ?_⟩
 have hkN : k < sig.length := by rw [hw, List.length_map, List.length_range] at hk; exact hk
 simp only [hw, List.getElem_map, List.getElem_range]
 have hb := bOf_pos (q := q) (P := o.prec) (cnt := cnt) (j := k) (ari := ariOf sig) (by rw [ariOf_at hkN]; have := ha.2 k hkN; omega) hc (fun x hx => (hr.lo x hx).1)
 unfold wOf
 split
 · omega
 split <;> omega
theorem made_ok (h : MkS sig.length (ariOf sig) lp p q tp o) (ha : ArOk sig) (hl : o.lpo = false) : KOk o.kp (arS sig) := by
 obtain ⟨dl, hd, hr, -⟩ := h.rk
 obtain ⟨hv, cnt, hc, hw⟩ := h.wts (by rw [← h.lpo]; exact hl)
 have hwf : ∀ f : Int, f.toNat < sig.length → o.kp.wf f = (wOf (ariOf sig) cnt o.prec q tp f.toNat).toNat := fun f hf => by
  show ((o.weights[f.toNat]?).getD 0).toNat = _
  rw [hw, List.getElem?_map, List.getElem?_range hf]
  rfl
 have hb : ∀ j, j < sig.length → 1 ≤ bOf (ariOf sig) cnt o.prec q j := fun j hj => bOf_pos (by rw [ariOf_at hj]; have := ha.2 j hj; omega) hc (fun x hx => (hr.lo x hx).1)
 refine ⟨fun f g hf hg h1 h2 he => ?_, fun f hf h1 => ?_, fun f hf h1 h2 g hg hgn => ?_⟩
 · have := RkP.inj hd hr (arS_some hf h1) (arS_some hg h2) he
   omega
 · obtain ⟨hlt, -, har⟩ := arS_at h1
   rw [hwf f hlt]
   have h3 := hb _ hlt
   have h4 := ariOf_at hlt
   have h5 := ha.2 _ hlt
   unfold wOf
   split
   · decide
   rw [if_neg (by rintro ⟨-, h6, -⟩; omega)]
   omega
 obtain ⟨hlt, -, har⟩ := arS_at h1
 rw [hwf f hlt] at h2
 have h3 := hb _ hlt
 unfold wOf at h2
 split at h2
 · exact absurd h2 (by decide)
 split at h2
 · next h6 =>
   have h7 : Lib.maxOf o.prec = o.kp.pr f := by rw [h6.2.2, List.getD_eq_getElem?_getD]; rfl
   rw [← h7]
   have hgl := arS_some hg hgn
   show (o.prec[g.toNat]?).getD 0 ≤ _
   rw [List.getElem?_eq_getElem (by rw [hr.len]; exact hgl)]
   exact le_maxOf (List.getElem_mem _)
 omega
theorem made_inj (h : MkS sig.length (ariOf sig) lp p q tp o) : ∀ f g, 0 ≤ f → 0 ≤ g → arS sig f ≠ none → arS sig g ≠ none → o.kp.pr f = o.kp.pr g → f = g := by
 obtain ⟨dl, hd, hr, -⟩ := h.rk
 intro f g hf hg h1 h2 he
 have := RkP.inj hd hr (arS_some hf h1) (arS_some hg h2) he
 omega
end
structure OrdOk (ar : Int → Option Nat) (o : Od) : Prop where
 od : OOd ar o
 inj : ∀ f g, 0 ≤ f → 0 ≤ g → ar f ≠ none → ar g ≠ none → o.kp.pr f = o.kp.pr g → f = g
 ok : o.lpo = false → KOk o.kp ar
section
variable {ar : Int → Option Nat} {o : Od}
theorem eqB_self (s : Tm) : eqB s s = true := (eqB_iff s s).2 rfl
theorem eqB_ne {s t : Tm} (h : s ≠ t) : eqB s t = false := by
 cases he : eqB s t with
 | true => exact absurd ((eqB_iff s t).1 he) h
 | false => rfl
theorem lcmp_gt {pr : Int → Int} {s t : Tm} (hs : wfT ar s) (h : lgt pr s t = true) : lcmp pr s t = .gt := by
 unfold lcmp
 rw [eqB_ne (lgt_ne hs h), if_neg (by decide), if_pos h]
theorem lcmp_gt_inv {pr : Int → Int} {s t : Tm} (h : lcmp pr s t = .gt) : lgt pr s t = true := by
 unfold lcmp at h
 split at h
 · cases h
 split at h
 · next h1 => exact h1
 split at h <;> cases h
theorem lcmp_turn {pr : Int → Int} {s t : Tm} (hs : wfT ar s) (ht : wfT ar t) : lcmp pr t s = (lcmp pr s t).turn := by
 by_cases he : s = t
 · subst he
   unfold lcmp
   rw [eqB_self, if_pos rfl]; rfl
 have hnb : ¬ (lgt pr s t = true ∧ lgt pr t s = true) := by
  rintro ⟨h1, h2⟩
  have := lgt_trans pr hs ht hs h1 h2
  rw [lgt_irr pr hs] at this
  cases this
 unfold lcmp
 rw [eqB_ne he, eqB_ne (fun e => he e.symm)]
 generalize lgt pr s t = b1 at hnb ⊢
 generalize lgt pr t s = b2 at hnb ⊢
 cases b1 <;> cases b2 <;> first | rfl | exact absurd ⟨rfl, rfl⟩ hnb
theorem ocmp_self (s : Tm) : ocmp o s s = .eq := by
 unfold ocmp
 split
 · unfold lcmp; rw [eqB_self, if_pos rfl]
 exact kcmp_self _ _
theorem ocmp_turn {s t : Tm} (hs : wfT ar s) (ht : wfT ar t) : ocmp o t s = (ocmp o s t).turn := by
 unfold ocmp
 split
 · exact lcmp_turn hs ht
 exact kcmp_turn _ _ _
theorem ocmp_eq {s t : Tm} (h : ocmp o s t = .eq) : s = t := by
 unfold ocmp at h
 split at h
 · unfold lcmp at h
   split at h
   · next h1 => exact (eqB_iff s t).1 h1
   split at h
   · cases h
   split at h <;> cases h
 exact kcmp_eq _ h
theorem ocmp_trans (ok : OrdOk ar o) {s t u : Tm} (hs : wfT ar s) (ht : wfT ar t) (hu : wfT ar u) (h : ocmp o s t = .gt) (h' : ocmp o t u = .gt) : ocmp o s u = .gt := by
 unfold ocmp at h h' ⊢
 split
 · next hl =>
   rw [if_pos hl] at h h'
   exact lcmp_gt hs (lgt_trans _ hs ht hu (lcmp_gt_inv h) (lcmp_gt_inv h'))
 next hl =>
 rw [if_neg hl] at h h'
 exact kgt_trans (ok.ok (by simpa using hl)) _ s t u (Nat.lt_succ_self _) hs ht hu h h'
theorem ocmp_put (ok : OrdOk ar o) (σ : Int → Option Tm) (hσ : ∀ f t, σ f = some t → wfT ar t) {s t : Tm} (hs : wfT ar s) (ht : wfT ar t) (h : ocmp o s t = .gt) : ocmp o (putU σ s) (putU σ t) = .gt := by
 unfold ocmp at h ⊢
 split
 · next hl =>
   rw [if_pos hl] at h
   exact lcmp_gt (putU_wf hσ _ s (Nat.lt_succ_self _) hs) (lgt_putU _ σ hσ _ s t (Nat.lt_succ_self _) hs ht (lcmp_gt_inv h))
 next hl =>
 rw [if_neg hl] at h
 exact kgt_putU (ok.ok (by simpa using hl)) σ hσ _ s t (Nat.lt_succ_self _) hs ht h
theorem ocmp_ground (ok : OrdOk ar o) {s t : Tm} (hs : wfT ar s) (ht : wfT ar t) (h1 : vL s = []) (h2 : vL t = []) : ocmp o s t ≠ .no := by
 intro h
 by_cases he : s = t
 · subst he; rw [ocmp_self] at h; cases h
 unfold ocmp at h
 split at h
 · next hl =>
   rcases lgt_total ok.inj _ s t (Nat.lt_succ_self _) hs ht h1 h2 he with h3 | h3
   · rw [lcmp_gt hs h3] at h; cases h
   have := lcmp_turn (pr := o.kp.pr) ht hs
   rw [lcmp_gt ht h3] at this
   rw [this] at h; cases h
 next hl =>
 rcases kgt_total (ok.ok (by simpa using hl)) _ s t (Nat.lt_succ_self _) hs ht h1 h2 he with h3 | h3
 · rw [h3] at h; cases h
 rw [kcmp_turn o.kp t s, h3] at h; cases h
theorem ocmp_arg (ok : OrdOk ar o) {f : Int} {xs : List Tm} {x : Tm} (h : wfT ar (.mk f xs)) (hx : x ∈ xs) : ocmp o (.mk f xs) x = .gt := by
 unfold ocmp
 split
 · exact lcmp_gt h (lgt_arg _ h hx)
 next hl => exact kgt_arg (ok.ok (by simpa using hl)) _ f xs x (Nat.lt_succ_self _) h hx
theorem ocmp_set {f : Int} {xs : List Tm} {i : Nat} {x y : Tm} (hw : wfT ar (.mk f xs)) (hy : wfT ar y) (hx : xs[i]? = some x) (h : ocmp o x y = .gt) : ocmp o (.mk f xs) (.mk f (xs.set i y)) = .gt := by
 unfold ocmp at h ⊢
 split
 · next hl =>
   rw [if_pos hl] at h
   exact lcmp_gt hw (lgt_set hw hy hx (lcmp_gt_inv h))
 next hl =>
 rw [if_neg hl] at h
 exact kgt_set hw hx h
end
theorem ov_wf {sig : List Sy} : ∀ (n : Nat) (top : Bool) (t : Tm), sizeT t < n → ovB sig top t = true → lowB 48 t = true → wfT (arS sig) t ∧ lowG t = true ∧ lowT t = true
 | 0, _, _, h, _, _ => absurd h (Nat.not_lt_zero _)
 | n + 1, top, .mk f xs, hn, h, hl => by
   by_cases hf : f < 0
   · rw [lowB, if_pos hf, Bool.and_eq_true, decide_eq_true_iff, decide_eq_true_iff] at hl
     obtain rfl : xs = [] := List.length_eq_zero_iff.1 hl.2
     refine ⟨by rw [wfT, if_pos hf, wfTs]; exact ⟨rfl, trivial⟩, ?_, ?_⟩
     · rw [lowG, lowGs, decide_eq_true (by omega)]; rfl
     rw [lowT, lowTs, decide_eq_true (by omega)]; rfl
   rw [ovB, decide_eq_false hf, Bool.false_or, Bool.and_eq_true] at h
   rw [lowB, if_neg hf] at hl
   obtain ⟨h1, h2⟩ := h
   have hall : ∀ x ∈ xs, wfT (arS sig) x ∧ lowG x = true ∧ lowT x = true := fun x hx => by
    rw [ovBs_all, List.all_eq_true] at h2
    rw [lowBs_all, List.all_eq_true] at hl
    have := sizeT_arg (f := f) hx
    exact ov_wf n false x (by omega) (h2 x hx) (hl x hx)
   have hg : ∀ ys : List Tm, (∀ x ∈ ys, lowG x = true) → lowGs ys = true := fun ys => by
    induction ys with
    | nil => intro _; rfl
    | cons y ys ih => intro h; rw [lowGs, h y List.mem_cons_self, ih fun x hx => h x (List.mem_cons_of_mem _ hx)]; rfl
   have ht : ∀ ys : List Tm, (∀ x ∈ ys, lowT x = true) → lowTs ys = true := fun ys => by
    induction ys with
    | nil => intro _; rfl
    | cons y ys ih => intro h; rw [lowTs, h y List.mem_cons_self, ih fun x hx => h x (List.mem_cons_of_mem _ hx)]; rfl
   have hw : ∀ ys : List Tm, (∀ x ∈ ys, wfT (arS sig) x) → wfTs (arS sig) ys := fun ys => by
    induction ys with
    | nil => intro _; rw [wfTs]; trivial
    | cons y ys ih => intro h; rw [wfTs]; exact ⟨h y List.mem_cons_self, ih fun x hx => h x (List.mem_cons_of_mem _ hx)⟩
   refine ⟨?_, ?_, ?_⟩
   · rw [wfT, if_neg hf]
     refine ⟨?_, hw xs fun x hx => (hall x hx).1⟩
     unfold arS
     rw [if_pos (by omega)]
     by_cases hl2 : f.toNat < sig.length
     · rw [List.getElem?_eq_getElem hl2] at h1 ⊢
       simp only [Bool.and_eq_true, decide_eq_true_iff] at h1
       simp only [Option.map_some, h1.1]
       rfl
     rw [List.getElem?_eq_none (by omega)] at h1
     cases h1
   · rw [lowG, decide_eq_true (by omega), hg xs fun x hx => (hall x hx).2.1]; rfl
   rw [lowT, decide_eq_true (by omega), ht xs fun x hx => (hall x hx).2.2]; rfl
theorem PrP.wf {sig : List Sy} {t : Tm} (h : PrP sig t) : wfT (arS sig) t ∧ lowG t = true ∧ lowT t = true := by
 obtain ⟨-, h1, h2, -⟩ := h
 unfold small2B at h1
 rw [Bool.and_eq_true] at h1
 exact ov_wf _ true t (Nat.lt_succ_self _) h2 h1.2
theorem PrP.low {sig : List Sy} {t : Tm} (h : PrP sig t) : lowB 48 t = true := by
 obtain ⟨-, h1, -⟩ := h
 unfold small2B at h1
 rw [Bool.and_eq_true] at h1
 exact h1.2
theorem vL_occ : ∀ (n : Nat) (t : Tm), sizeT t < n → vL t ≠ [] → ∃ x, occP t x
 | 0, _, h, _ => absurd h (Nat.not_lt_zero _)
 | n + 1, .mk f xs, hn, h => by
   by_cases hf : f < 0
   · exact ⟨_, (occP_var hf _).2 rfl⟩
   rw [vL, if_neg hf, List.nil_append] at h
   obtain ⟨v, hv⟩ := List.exists_mem_of_ne_nil _ h
   obtain ⟨x, hx, hvx⟩ := vLs_arg hv
   have := sizeT_arg (f := f) hx
   obtain ⟨y, j, hy, ho⟩ := vL_occ n x (by omega) (fun e => by rw [e] at hvx; cases hvx)
   refine ⟨y, j, hy, ?_⟩
   rw [occB, if_neg hf]
   have : ∀ ys : List Tm, x ∈ ys → occBs j ys = true := fun ys => by
    induction ys with
    | nil => intro h; cases h
    | cons z zs ih =>
      intro h
      rw [occBs]
      rcases List.mem_cons.1 h with rfl | h
      · rw [ho]; rfl
      rw [ih h]; simp
   exact this xs hx
theorem size_putU (σ : Int → Option Tm) (m : Nat) (hm : 1 ≤ m) (hσ : ∀ f t, σ f = some t → sizeT t ≤ m) : ∀ (n : Nat) (t : Tm), sizeT t < n → sizeT (putU σ t) ≤ m * sizeT t
 | 0, _, h => absurd h (Nat.not_lt_zero _)
 | n + 1, .mk f xs, hn => by
   rw [putU]
   split
   · next t ht =>
     have h1 : sizeT t ≤ m := by
      split at ht
      · exact hσ _ _ ht
      cases ht
     have h2 := sizeT_pos (.mk f xs)
     calc sizeT t ≤ m * 1 := by omega
      _ ≤ m * sizeT (.mk f xs) := Nat.mul_le_mul_left _ h2
   rw [putUs_map, sizeT, sizeT, Nat.mul_add, Nat.mul_one]
   have : ∀ ys : List Tm, (∀ y ∈ ys, y ∈ xs) → sizeTs (ys.map (putU σ)) ≤ m * sizeTs ys := fun ys => by
    induction ys with
    | nil => intro _; simp [sizeTs]
    | cons y ys ih =>
      intro h
      have h1 := ih fun z hz => h z (List.mem_cons_of_mem _ hz)
      have h2 := sizeT_arg (f := f) (h y List.mem_cons_self)
      have h3 := size_putU σ m hm hσ n y (by omega)
      rw [List.map_cons, sizeTs, sizeTs, Nat.mul_add]
      omega
   have := this xs fun _ h => h
   omega
theorem lowG_putU (σ : Int → Option Tm) (hσ : ∀ f t, σ f = some t → lowG t = true) : ∀ (n : Nat) (t : Tm), sizeT t < n → lowG t = true → lowG (putU σ t) = true
 | 0, _, h, _ => absurd h (Nat.not_lt_zero _)
 | n + 1, .mk f xs, hn, hl => by
   rw [putU]
   split
   · next t ht =>
     split at ht
     · exact hσ _ _ ht
     cases ht
   rw [lowG, Bool.and_eq_true] at hl
   rw [putUs_map, lowG, hl.1, Bool.true_and]
   have : ∀ ys : List Tm, (∀ y ∈ ys, y ∈ xs) → lowGs (ys.map (putU σ)) = true := fun ys => by
    induction ys with
    | nil => intro _; rfl
    | cons y ys ih =>
      intro h
      have h1 := ih fun z hz => h z (List.mem_cons_of_mem _ hz)
      have h2 := sizeT_arg (f := f) (h y List.mem_cons_self)
      rw [List.map_cons, lowGs, h1, lowG_putU σ hσ n y (by omega) (lowGs_mem hl.2 (h y List.mem_cons_self))]; rfl
   exact this xs fun _ h => h
theorem getL_mem {l : Sb} {v : Int} {t : Tm} (h : getL l v = some t) : ∃ p ∈ l, p.2 = t := by
 unfold getL at h
 rw [Option.map_eq_some_iff] at h
 obtain ⟨p, hp, rfl⟩ := h
 exact ⟨p, List.mem_of_find?_eq_some hp, rfl⟩
def sgL : List Sy := [truthS, ⟨⟨#[97]⟩, 0, false⟩, ⟨⟨#[98]⟩, 0, false⟩, ⟨⟨#[103]⟩, 1, false⟩, ⟨⟨#[112]⟩, 1, true⟩]
def sgC : Array Value := #[.string ⟨#[36, 116, 114, 117, 101]⟩, .int .i64 0, .bool true, .string ⟨#[97]⟩, .int .i64 0, .bool false, .string ⟨#[98]⟩, .int .i64 0, .bool false, .string ⟨#[103]⟩, .int .i64 1, .bool false, .string ⟨#[112]⟩, .int .i64 1, .bool true]
theorem rd_sgL {b : Nat} {w : World} (h : BoxN b 65 sgC w) : Rd w w.heap.size (encSig sgL) (.slice (some ⟨b, 0, none⟩) 5 5) := by
 have hb := ltOf h
 refine Rd.row 3 b 0 5 (sgL.map encSy) (fun k j => (sgC[k * 3 + j]?).getD undef) ?_ (by simp [sgL]) (by simp [sgL]) (by decide) hb ?_ ?_
 · intro r hr
   obtain ⟨x, -, rfl⟩ := List.mem_map.1 hr
   rfl
 · intro k j hk hj
   have hk : k < 5 := hk
   rw [h.cell (0 + k * 3 + j), show 0 + k * 3 + j = k * 3 + j by omega]
   have hs : k * 3 + j < sgC.size := by show k * 3 + j < 15; omega
   rw [Array.getElem?_eq_getElem hs]
   rfl
 intro k hk j hj
 have hk : k < 5 := hk
 rcases (by omega : k = 0 ∨ k = 1 ∨ k = 2 ∨ k = 3 ∨ k = 4) with rfl | rfl | rfl | rfl | rfl
 all_goals
  have hj : j < 3 := hj
  rcases (by omega : j = 0 ∨ j = 1 ∨ j = 2) with rfl | rfl | rfl <;> exact Rd.leaf _
theorem sig_any (w : World) : Calls Tryz.prog 14 #[] w (fun e w' => ∃ b, e = .returned (.agg #[.slice (some ⟨b, 0, none⟩) 5 5]) ∧ Below w.heap.size w w' ∧ Rd w' w'.heap.size (encSig sgL) (.slice (some ⟨b, 0, none⟩) 5 5)) := by
 go_enter Tryz.func14, Tryz.ntmps14
 go_wp2_with fail
 obtain ⟨hx1, hx2, hB2, hz2⟩ := boxes2 w (.cells #[.slice (some ⟨w.heap.size + 1, 0, none⟩) 5 5] 24) (.cells sgC 65)
 have hx2 : BoxN (w.heap.size + 1) 65 sgC _ := hx2
 have hr := rd_sgL hx2
 have hx1 : Box1 w.heap.size 24 (.slice (some ⟨w.heap.size + 1, 0, none⟩) 5 5) _ := hx1
 have k1 := hx1.cell
 have e : (w.alloc (.cells #[.slice (some ⟨w.heap.size + 1, 0, none⟩) 5 5] 24)).alloc (.cells sgC 65) = (w.alloc (.cells #[.slice (some ⟨w.heap.size + 1, 0, none⟩) 5 5] 24)).alloc (.cells #[.string ⟨#[36, 116, 114, 117, 101]⟩, .int .i64 0, .bool true, .string ⟨#[97]⟩, .int .i64 0, .bool false, .string ⟨#[98]⟩, .int .i64 0, .bool false, .string ⟨#[103]⟩, .int .i64 1, .bool false, .string ⟨#[112]⟩, .int .i64 1, .bool true] 65) := rfl
 rw [e] at hr k1 hB2
 generalize World.alloc _ _ = w2 at hr k1 hB2 ⊢
 exact bodyPost_ret (v := .agg #[.slice (some ⟨w.heap.size + 1, 0, none⟩) 5 5]) (by simp [results, Tryz.results14, go_sem, k1]) rfl ⟨_, rfl, hB2, hr⟩
theorem sgL_ok : SigP sgL := by
 refine ⟨by decide, _, rfl, ?_, ?_⟩
 · intro x hx
   have hn : ∀ c : UInt8, letterP (c.toNat : Nat) → NameP ⟨#[c]⟩ := fun c h => ⟨by simp [ByteArray.size], by simp [ByteArray.size], fun k hk => by
    have hk : k < 1 := hk
    obtain rfl : k = 0 := by omega
    exact h⟩
   simp only [List.mem_cons, List.not_mem_nil, or_false] at hx
   rcases hx with rfl | rfl | rfl | rfl <;> exact ⟨hn _ (by unfold letterP; decide), by decide, by decide⟩
 simp
theorem sgL_ar : ArOk sgL := by
 have : ∀ x ∈ sgL, 0 ≤ x.ar ∧ x.ar ≤ 6 := by simp [sgL, truthS]
 exact ⟨by decide, fun j hj => this _ (List.getElem_mem hj)⟩
theorem made_ord {sig : List Sy} {lp tp : Bool} {p q : Int} {o : Od} (h : MkS sig.length (ariOf sig) lp p q tp o) (ha : ArOk sig) : OrdOk (arS sig) o := ⟨made_kod h ha, made_inj h, made_ok h ha⟩
theorem sgL_cmp {o : Od} (h : MkS sgL.length (ariOf sgL) false 0 0 false o) : ocmp o (.mk 3 [.mk 1 []]) (.mk 1 []) = .gt ∧ ocmp o (.mk 1 []) (.mk 2 []) = .lt ∧ wfT (arS sgL) (.mk 3 [.mk 1 []]) ∧ wfT (arS sgL) (.mk 1 []) ∧ wfT (arS sgL) (.mk 2 []) := by
 have ok := made_ord h sgL_ar
 have w1 : wfT (arS sgL) (.mk 1 []) := by rw [wfT, wfTs]; exact ⟨by rw [if_neg (by decide)]; rfl, trivial⟩
 have w2 : wfT (arS sgL) (.mk 2 []) := by rw [wfT, wfTs]; exact ⟨by rw [if_neg (by decide)]; rfl, trivial⟩
 have w3 : wfT (arS sgL) (.mk 3 [.mk 1 []]) := by rw [wfT, wfTs, wfTs]; exact ⟨by rw [if_neg (by decide)]; rfl, w1, trivial⟩
 refine ⟨ocmp_arg ok w3 List.mem_cons_self, ?_, w3, w1, w2⟩
 obtain ⟨dl, hd, hr, hid⟩ := h.rk
 obtain ⟨hv, cnt, hc, hw⟩ := h.wts rfl
 have hdl : dl.length = 4 := by have := hd.len; have : sgL.length = 5 := rfl; omega
 have p1 : o.prec[1]? = some 1 := by have := hr.at_ 0 (by omega) (by omega); rw [hid rfl 0 (by omega)] at this; exact this
 have p2 : o.prec[2]? = some 2 := by have := hr.at_ 1 (by omega) (by omega); rw [hid rfl 1 (by omega)] at this; exact this
 have hwt : ∀ j, j < 5 → o.weights[j]? = some 1 := fun j hj => by
  rw [hw, List.getElem?_map, List.getElem?_range (show j < sgL.length from hj)]
  show some (wOf _ _ _ _ _ _) = _
  unfold wOf
  split
  · rfl
  rw [if_neg (by simp)]
  unfold bOf
  rw [if_pos rfl]
  rfl
 have hgt : kcmp o.kp (.mk 2 []) (.mk 1 []) = .gt := by
  rw [kgt_iff]
  refine ⟨fun e => by injection e with e1; exact absurd e1 (by decide), fun v => by simp [vL, vLs], .inr ⟨?_, by decide, .inr (.inl ⟨by decide, by decide, ?_⟩)⟩⟩
  · rw [wT, wT, wTs, if_neg (by decide), if_neg (by decide)]
    show ((o.weights[1]?).getD 0).toNat + 0 = ((o.weights[2]?).getD 0).toNat + 0
    rw [hwt 1 (by omega), hwt 2 (by omega)]
  show (o.prec[1]?).getD 0 < (o.prec[2]?).getD 0
  rw [p1, p2]; decide
 rw [ocmp_turn (o := o) w2 w1]
 unfold ocmp
 rw [h.lpo, if_neg (by decide), hgt]
 rfl
theorem rd_one {b : Nat} {w : World} (h : BoxN b 32 #[.int .i64 1, .slice none 0 0] w) : Rd w w.heap.size (.sl 2 (encTms [.mk 1 []])) (.slice (some ⟨b, 0, none⟩) 1 1) := by
 have hb := ltOf h
 refine Rd.row 2 b 0 1 (encTms [.mk 1 []]) (fun k j => ((#[.int .i64 1, .slice none 0 0] : Array Value)[j]?).getD undef) ?_ (by simp [encTms]) (by simp [encTms]) (by decide) hb ?_ ?_
 · intro r hr
   simp only [encTms, List.mem_cons, List.not_mem_nil, or_false] at hr
   subst hr
   rfl
 · intro k j hk hj
   have hk : k < 1 := by simpa [encTms] using hk
   obtain rfl : k = 0 := by omega
   rw [h.cell (0 + 0 * 2 + j), show 0 + 0 * 2 + j = j by omega]
   rcases (by omega : j = 0 ∨ j = 1) with rfl | rfl <;> rfl
 intro k hk j hj
 have hk : k < 1 := by simpa [encTms] using hk
 obtain rfl : k = 0 := by omega
 have hj : j < 2 := by simpa [encTms, encTm] using hj
 rcases (by omega : j = 0 ∨ j = 1) with rfl | rfl
 · exact Rd.leaf _
 exact Rd.none_ _
theorem orders_any (w : World) : Calls Tryz.prog 4 #[] w (BoolRes true w) := by
 go_enter Tryz.func4, Tryz.ntmps4
 go_wp2_with fail
 refine (sig_any w).mono ?_
 rintro e w1 ⟨sb, rfl, hb1, hr1⟩
 have HB1 := Lh hb1
 have hz1 := hb1.size
 have hmk := make5_any sgL (some ⟨sb, 0, none⟩) 5 [] (.slice none 0 0) false false 0 0 w1.heap.size w1 hr1 (by decide) (Rd.none_ _) (Nat.le_refl _) (by decide)
 have Hmk := Lh hmk
 clear hb1 hr1 hmk
 go_wp2_with fail
 refine Hmk.out.mono ?_
 rintro e w2 ⟨hb2, hc⟩
 have hz2 := hb2.size
 have HB2 := Lh (HB1.out.trans (hb2.mono hz1))
 clear hb2
 rcases hc with ⟨n, -, -, hno⟩ | ⟨-, -, o, Ap, Aw, cp, cw, rfl, hod, hms⟩
 · exact absurd ⟨by decide, by decide, by decide, by decide⟩ (hno sgL_ok rfl)
 have ok := made_ord hms sgL_ar
 obtain ⟨hc1, hc2, hw3, hw1, hw2⟩ := sgL_cmp hms
 have hlpo := hms.lpo
 have Hod := Lh hod
 have Hok := Lh ok
 have Hc1 := Lh hc1
 have Hc2 := Lh hc2
 have Hw1 := Lh hw1
 have Hw2 := Lh hw2
 have Hw3 := Lh hw3
 have Hlpo := Lh hlpo
 clear hod ok hc1 hc2 hw1 hw2 hw3 hms hlpo
 go_upto_region 3 with fail
 obtain ⟨hx1, hx2, hB3, hz3⟩ := boxes2 w2 (.cells #[.bool o.lpo, .slice Ap o.prec.length cp, .slice Aw o.weights.length cw, .int .i64 o.var] 38) (.cells #[.int .i64 1, .slice none 0 0] 32)
 generalize (w2.alloc (.cells #[.bool o.lpo, .slice Ap o.prec.length cp, .slice Aw o.weights.length cw, .int .i64 o.var] 38)).alloc (.cells #[.int .i64 1, .slice none 0 0] 32) = w3 at hx1 hx2 hB3 hz3 ⊢
 have hx1 : BoxN w2.heap.size 38 #[.bool o.lpo, .slice Ap o.prec.length cp, .slice Aw o.weights.length cw, .int .i64 o.var] w3 := hx1
 have hx2 : BoxN (w2.heap.size + 1) 32 #[.int .i64 1, .slice none 0 0] w3 := hx2
 have HX1 := Lh hx1
 have HX2 := Lh hx2
 have HB3 := Lh hB3
 have o0 : w3.cell? ⟨w2.heap.size, 0, none⟩ = some (.bool o.lpo) := hx1.cell 0
 have o1 : w3.cell? ⟨w2.heap.size, 1, none⟩ = some (.slice Ap o.prec.length cp) := hx1.cell 1
 have o2 : w3.cell? ⟨w2.heap.size, 2, none⟩ = some (.slice Aw o.weights.length cw) := hx1.cell 2
 have o3 : w3.cell? ⟨w2.heap.size, 3, none⟩ = some (.int .i64 o.var) := hx1.cell 3
 have t0 : w3.cell? ⟨w2.heap.size + 1, 0, none⟩ = some (.int .i64 1) := hx2.cell 0
 have t1 : w3.cell? ⟨w2.heap.size + 1, 1, none⟩ = some (.slice none 0 0) := hx2.cell 1
 have hz3l : w2.heap.size + 1 < w3.heap.size := by omega
 clear hx1 hx2 hB3 hz3
 go_wp2_with fail
 have hx4 := heap_alloc_new w3 (.cells #[.int .i64 1, .slice none 0 0] 32)
 have hx4 : BoxN w3.heap.size 32 #[.int .i64 1, .slice none 0 0] _ := hx4
 have hB4 := below_box w3 (.cells #[.int .i64 1, .slice none 0 0] 32)
 generalize w3.alloc (.cells #[.int .i64 1, .slice none 0 0] 32) = w4 at hx4 hB4 ⊢
 have hz4 := hB4.size
 have hb24 := HB3.out.trans (hB4.mono (by omega))
 have ho4 : OdV w4 w4.heap.size o Ap Aw cp cw := ⟨(Hod.out.p.low hb24 (Nat.le_refl _)).more (by omega), (Hod.out.w.low hb24 (Nat.le_refl _)).more (by omega)⟩
 have HB4 := Lh (HB2.out.trans (hb24.mono (by omega)))
 have HX14 := Lh (HX1.out.low hB4)
 have HX24 := Lh (HX2.out.low hB4)
 have Hb24 := Lh hb24
 clear o0 o1 o2 o3 t0 t1
 refine (cmp_any Hok.out.od 3 1 [.mk 1 []] [] (.slice (some ⟨w3.heap.size, 0, none⟩) 1 1) (.slice none 0 0) Ap Aw cp cw w4.heap.size w4 Hw3.out Hw1.out (by decide) (by decide) (by decide) ho4 (rd_one hx4) (Rd.none_ _) (Nat.le_refl _)).mono ?_
 rintro e w5 ⟨rfl, hb5⟩
 rw [Hc1.out]
 have hz5 := hb5.size
 have HB5 := Lh (HB4.out.trans (hb5.mono (by omega)))
 have Hb25 := Lh (Hb24.out.trans (hb5.mono (by omega)))
 have hx15 := HX14.out.low hb5
 have hx25 := HX24.out.low hb5
 have o0 : w5.cell? ⟨w2.heap.size, 0, none⟩ = some (.bool o.lpo) := hx15.cell 0
 have o1 : w5.cell? ⟨w2.heap.size, 1, none⟩ = some (.slice Ap o.prec.length cp) := hx15.cell 1
 have o2 : w5.cell? ⟨w2.heap.size, 2, none⟩ = some (.slice Aw o.weights.length cw) := hx15.cell 2
 have o3 : w5.cell? ⟨w2.heap.size, 3, none⟩ = some (.int .i64 o.var) := hx15.cell 3
 have t0 : w5.cell? ⟨w2.heap.size + 1, 0, none⟩ = some (.int .i64 1) := hx25.cell 0
 have t1 : w5.cell? ⟨w2.heap.size + 1, 1, none⟩ = some (.slice none 0 0) := hx25.cell 1
 simp only [Rl.int]
 clear hb5 hx15 hx25 hx4 hB4 hb24 ho4
 go_wp2_with fail
 refine (cmp_any Hok.out.od 1 2 [] [] (.slice none 0 0) (.slice none 0 0) Ap Aw cp cw w5.heap.size w5 Hw1.out Hw2.out (by decide) (by decide) (by decide) ⟨(Hod.out.p.low Hb25.out (Nat.le_refl _)).more (by omega), (Hod.out.w.low Hb25.out (Nat.le_refl _)).more (by omega)⟩ (Rd.none_ _) (Rd.none_ _) (Nat.le_refl _)).mono ?_
 rintro e w6 ⟨rfl, hb6⟩
 rw [Hc2.out]
 have HB6 := Lh (HB5.out.trans (hb6.mono (by have := HB5.out.size; omega)))
 simp only [Rl.int]
 clear hb6 o0 o1 o2 o3 t0 t1
 go_wp2_with fail
 go_ret
 exact ⟨rfl, HB6.out⟩
theorem vars02_any (f : Int) (xs : List Tm) (v2 : Value) (B : Nat) (w : World) (hl : lowB 48 (.mk f xs) = true) (hz : sizeT (.mk f xs) ≤ 2000000) (hr : Rd w B (.sl 2 (encTms xs)) v2) (hB : B ≤ w.heap.size) :
 Calls Tryz.prog 12 #[.agg #[.int .i64 f, v2]] w (fun e w' => ∃ (A : Option Addr) (n c : Nat), e = .returned (.slice A n c) ∧ (n = 0 → vL (.mk f xs) = []) ∧ n ≤ 10000000 ∧ Below w.heap.size w w') := by
 obtain ⟨A, c, rfl, -, hn, -⟩ := hr.tm_form
 have hj := fun (w' : World) (hb : Below w.heap.size w w') => join02_any (sizeTs xs + 1) f xs (.slice A xs.length c) (.slice none 0 0) [] B w' (Nat.lt_succ_self _) hl (by simp; omega) (hr.low hb hB) (Rd.none_ _) (by have := hb.size; omega)
 have Hj := Lh hj
 clear hj hr
 go_enter Tryz.func12, Tryz.ntmps12
 go_upto_region 1 with fail
 obtain ⟨hx1, hB1, hz1⟩ := boxes1 w (.cells #[.int .i64 f, .slice A xs.length c] 32)
 generalize w.alloc (.cells #[.int .i64 f, .slice A xs.length c] 32) = w1 at hx1 hB1 hz1 ⊢
 have hx1 : Box2 w.heap.size 32 (.int .i64 f) (.slice A xs.length c) w1 := hx1
 obtain ⟨p0, p1, -⟩ := hx1.cells
 have HB1 := Lh hB1
 clear hx1 hB1 hz1
 go_wp2_with fail
 refine (Hj.out w1 HB1.out).mono ?_
 rintro e w2 ⟨l', vo, rfl, hb2, hjn, hrv⟩
 have HB2 := Lh (HB1.out.trans (hb2.mono HB1.out.size))
 obtain ⟨Av, cv, rfl, -, hnv, -⟩ := Rd.row_form (show Rd w2 w2.heap.size (.sl 1 (l'.map fun n => [.leaf (.int .i64 n)])) vo from hrv)
 have Hjn := Lh hjn
 clear p0 p1 hb2 hjn hrv
 go_wp2_with fail
 go_ret
 refine ⟨Av, l'.length, cv, rfl, fun h0 => ?_, ?_, HB2.out⟩
 · by_cases hv : vL (.mk f xs) = []
   · exact hv
   obtain ⟨x, hx⟩ := vL_occ _ _ (Nat.lt_succ_self _) hv
   have := (Hjn.out.2.1 x).2 (.inr hx)
   rw [List.length_eq_zero_iff.1 h0] at this
   cases this
 have := Hjn.out.2.2
 simp at this
 omega
theorem boxes5 (w : World) (o1 o2 o3 o4 o5 : Obj) : ∃ b1 b2 b3 b4 b5 w', (((((w.alloc o1).alloc o2).alloc o3).alloc o4).alloc o5) = w' ∧ b1 = w.heap.size ∧ b2 = b1 + 1 ∧ b3 = b2 + 1 ∧ b4 = b3 + 1 ∧ b5 = b4 + 1 ∧ w'.heap[b1]? = some o1 ∧ w'.heap[b2]? = some o2 ∧ w'.heap[b3]? = some o3 ∧ w'.heap[b4]? = some o4 ∧ w'.heap[b5]? = some o5 ∧ Below w.heap.size w w' ∧ w'.heap.size = w.heap.size + 5 := by
 obtain ⟨h1, h2, h3, h5, h6⟩ := boxes3 w o1 o2 o3
 obtain ⟨g1, g2, g3, g4⟩ := boxes2 (((w.alloc o1).alloc o2).alloc o3) o4 o5
 refine ⟨_, _, _, _, _, _, rfl, rfl, rfl, rfl, rfl, rfl, ?_, ?_, ?_, ?_, ?_, h5.trans (g3.mono (by omega)), by rw [g4, h6]⟩
 · exact (g3.block _ (by omega)).trans h1
 · exact (g3.block _ (by omega)).trans h2
 · exact (g3.block _ (by omega)).trans h3
 · rw [h6] at g1; exact g1
 rw [h6] at g2; exact g2
theorem sizeTs_set (y : Tm) : ∀ (xs : List Tm) (k : Nat), sizeTs (xs.set k y) ≤ sizeTs xs + sizeT y
 | [], _ => by simp
 | x :: xs, 0 => by rw [List.set_cons_zero, sizeTs, sizeTs]; omega
 | x :: xs, k + 1 => by rw [List.set_cons_succ, sizeTs, sizeTs]; have := sizeTs_set y xs k; omega
theorem lowGs_set {y : Tm} (hy : lowG y = true) : ∀ (xs : List Tm) (k : Nat), lowGs xs = true → lowGs (xs.set k y) = true
 | [], _, h => h
 | x :: xs, 0, h => by rw [lowGs, Bool.and_eq_true] at h; rw [List.set_cons_zero, lowGs, hy, h.2]; rfl
 | x :: xs, k + 1, h => by rw [lowGs, Bool.and_eq_true] at h; rw [List.set_cons_succ, lowGs, h.1, lowGs_set hy xs k h.2]; rfl
theorem wfT_set {ar : Int → Option Nat} {f : Int} {xs : List Tm} {k : Nat} {y : Tm} (h : wfT ar (.mk f xs)) (hy : wfT ar y) (hk : k < xs.length) : wfT ar (.mk f (xs.set k y)) := by
 have hf : ¬ f < 0 := fun hf => by have := h.var hf; rw [this] at hk; simp at hk
 have ha := h.ar (by omega)
 rw [wfT, if_neg hf, List.length_set]
 refine ⟨ha, wfTs_of fun x hx => ?_⟩
 rcases List.mem_or_eq_of_mem_set hx with hx | rfl
 · exact h.args hx
 exact hy
theorem putO_one {f : Int} {xs : List Tm} {k : Nat} (hk : k < xs.length) (u : Tm) : putO (.mk f xs) [((k : Nat) : Int)] u = some (.mk f (xs.set k u)) := by
 rw [putO, if_neg (by omega), Int.toNat_natCast, List.getElem?_eq_getElem hk]
 dsimp only
 rw [putO]
 rfl
theorem rd_one_int {b : Nat} {w : World} {k : Int} (h : BoxN b 3 #[.int .i64 k] w) : Rd w w.heap.size (encIs [k]) (.slice (some ⟨b, 0, none⟩) 1 1) := by
 have hb := ltOf h
 refine Rd.row 1 b 0 1 ([k].map fun n => [Tr.leaf (.int .i64 n)]) (fun _ j => ((#[.int .i64 k] : Array Value)[j]?).getD undef) ?_ (by simp) (by simp) (by decide) hb ?_ ?_
 · intro r hr
   simp only [List.map_cons, List.map_nil, List.mem_cons, List.not_mem_nil, or_false] at hr
   subst hr
   rfl
 · intro k' j hk hj
   have hk : k' < 1 := by simpa using hk
   obtain rfl : k' = 0 := by omega
   obtain rfl : j = 0 := by omega
   exact h.cell 0
 intro k' hk j hj
 have hk : k' < 1 := by simpa using hk
 obtain rfl : k' = 0 := by omega
 have hj : j < 1 := by simpa using hj
 obtain rfl : j = 0 := by omega
 exact Rd.leaf _
theorem top_any (sig : List Sy) (cs : List Cl) (lp : Bool) (pr wt : Int) (tp : Bool) (fx fy fz : Int) (xs ys zs : List Tm) (put : Sb) (us vc vx vy vz vp : Value) (B : Nat) (w : World) (hs : Rd w B (encSig sig) us) (hlen : sig.length ≤ 1100000) (hr : Rd w B (encCls cs) vc) (hz : cs.length ≤ 20 → sizCs cs ≤ 300000000)
 (hx : Rd w B (.sl 2 (encTms xs)) vx) (hy : Rd w B (.sl 2 (encTms ys)) vy) (hzz : Rd w B (.sl 2 (encTms zs)) vz) (hsx : sizeTs xs ≤ 1100000) (hsy : sizeTs ys ≤ 1100000) (hsz : sizeTs zs ≤ 1100000) (hp : Rd w B (encSb put) vp) (hsp : ∀ p ∈ put, sizeT p.2 ≤ 1100000) (hB : B ≤ w.heap.size) :
 Calls Tryz.prog 3 #[.agg #[us], vc, .agg #[.bool lp, .int .i64 pr, .int .i64 wt, .bool tp], .agg #[.int .i64 fx, vx], .agg #[.int .i64 fy, vy], .agg #[.int .i64 fz, vz], vp] w (BoolRes true w) := by
 obtain ⟨A, cs0, rfl, -, -, -⟩ := Rd.row_form (show Rd w B (.sl 3 (sig.map encSy)) us from hs)
 obtain ⟨A1, c1, rfl, -, hnc, -⟩ := Rd.row_form hr
 obtain ⟨Ax, cx, rfl, -, hnx, -⟩ := hx.tm_form
 obtain ⟨Ay, cy, rfl, -, hny, -⟩ := hy.tm_form
 obtain ⟨Az, cz, rfl, -, hnz, -⟩ := hzz.tm_form
 obtain ⟨App, cpp, rfl, -, hnp, -⟩ := Rd.row_form hp
 have HS := Lh hs
 have HR := Lh hr
 have HX := Lh hx
 have HY := Lh hy
 have HZ := Lh hzz
 have HP := Lh hp
 have Hsp := Lh hsp
 clear hs hr hx hy hzz hp hsp
 go_enter Tryz.func3, Tryz.ntmps3
 go_upto_region 1 with fail
 obtain ⟨b7, b9, b10, b11, b12, w1, hw1, e7, e9, e10, e11, e12, h7, h9, h10, h11, h12, hb1, hz1⟩ := boxes5 w (.cells #[.slice A sig.length cs0] 24) (.cells #[.bool lp, .int .i64 pr, .int .i64 wt, .bool tp] 29) (.cells #[.int .i64 fx, .slice Ax xs.length cx] 32) (.cells #[.int .i64 fy, .slice Ay ys.length cy] 32) (.cells #[.int .i64 fz, .slice Az zs.length cz] 32)
 rw [hw1, ← e7, ← e9, ← e10, ← e11, ← e12]
 clear hw1
 have h7 : Box1 b7 24 (.slice A sig.length cs0) w1 := h7
 have h9 : BoxN b9 29 #[.bool lp, .int .i64 pr, .int .i64 wt, .bool tp] w1 := h9
 have h10 : Box2 b10 32 (.int .i64 fx) (.slice Ax xs.length cx) w1 := h10
 have h11 : Box2 b11 32 (.int .i64 fy) (.slice Ay ys.length cy) w1 := h11
 have h12 : Box2 b12 32 (.int .i64 fz) (.slice Az zs.length cz) w1 := h12
 have H7 := Lh h7
 have H9 := Lh h9
 have H10 := Lh h10
 have H11 := Lh h11
 have H12 := Lh h12
 have HB1 := Lh hb1
 have q7 := h7.cell
 have y0 : w1.cell? ⟨b9, 0, none⟩ = some (.bool lp) := h9.cell 0
 have y1 : w1.cell? ⟨b9, 1, none⟩ = some (.int .i64 pr) := h9.cell 1
 have y2 : w1.cell? ⟨b9, 2, none⟩ = some (.int .i64 wt) := h9.cell 2
 have y3 : w1.cell? ⟨b9, 3, none⟩ = some (.bool tp) := h9.cell 3
 have hl1 : b12 < w1.heap.size ∧ w.heap.size ≤ b7 ∧ b7 < b9 ∧ b9 < b10 ∧ b10 < b11 ∧ b11 < b12 := by omega
 clear h7 h9 h10 h11 h12 hb1 e7 e9 e10 e11 e12
 by_cases h20 : 20 < cs.length
 · have h20' : (20 : Int) < (cs.length : Int) := by omega
   go_wp2_with fail
   refine (orders_any w1).mono ?_
   rintro e wE ⟨rfl, hbE⟩
   have HBE := Lh (HB1.out.trans (hbE.mono (by have := (HB1).out.size; omega)))
   clear hbE
   go_wp2_with fail
   exact bodyPost_ret (v := .bool true) (by simp [results, Tryz.results3, go_sem]) rfl ⟨rfl, HBE.out⟩
 have h20' : ¬ (20 : Int) < (cs.length : Int) := by omega
 have hmk := make5_any sig A cs0 cs (.slice A1 cs.length c1) lp tp pr wt B w1 (HS.out.low HB1.out hB) hlen (HR.out.low HB1.out hB) (by omega) (hz (by omega))
 have Hmk := Lh hmk
 clear hmk
 go_wp2_with fail
 refine Hmk.out.mono ?_
 rintro e w2 ⟨hb2, hc⟩
 have hz2 := hb2.size
 have HB2 := Lh (HB1.out.trans (hb2.mono (by omega)))
 have H7 := Lh (H7.out.low hb2)
 have H10 := Lh (H10.out.low hb2)
 have H11 := Lh (H11.out.low hb2)
 have H12 := Lh (H12.out.low hb2)
 clear hb2 q7 y0 y1 y2 y3
 rcases hc with ⟨n, rfl, hne, -⟩ | ⟨hN1, hN2, o, Ap, Aw, cp, cw, rfl, hod, hms⟩
 · have hnb : (n != 0) = true := by rw [bne_iff_ne]; exact hne
   clear hne
   go_upto_region 4 with fail
   have hB3 := below_box w2 (.cells #[.bool false, .slice none 0 0, .slice none 0 0, .int .i64 0] 38)
   generalize w2.alloc (.cells #[.bool false, .slice none 0 0, .slice none 0 0, .int .i64 0] 38) = w3 at hB3 ⊢
   have HB3 := Lh (HB2.out.trans (hB3.mono (by omega)))
   clear hB3
   go_wp2_with fail
   refine (orders_any w3).mono ?_
   rintro e wE ⟨rfl, hbE⟩
   have HBE := Lh (HB3.out.trans (hbE.mono (by have := (HB3).out.size; omega)))
   clear hbE
   go_wp2_with fail
   exact bodyPost_ret (v := .bool true) (by simp [results, Tryz.results3, go_sem]) rfl ⟨rfl, HBE.out⟩
 go_upto_region 4 with fail
 have hx3 := heap_alloc_new w2 (.cells #[.bool o.lpo, .slice Ap o.prec.length cp, .slice Aw o.weights.length cw, .int .i64 o.var] 38)
 have hB3 := below_box w2 (.cells #[.bool o.lpo, .slice Ap o.prec.length cp, .slice Aw o.weights.length cw, .int .i64 o.var] 38)
 have hz3 : w2.heap.size < (w2.alloc (.cells #[.bool o.lpo, .slice Ap o.prec.length cp, .slice Aw o.weights.length cw, .int .i64 o.var] 38)).heap.size := by simp
 obtain ⟨ob, hob⟩ : ∃ b, w2.heap.size = b := ⟨_, rfl⟩
 generalize w2.alloc (.cells #[.bool o.lpo, .slice Ap o.prec.length cp, .slice Aw o.weights.length cw, .int .i64 o.var] 38) = w3 at hx3 hB3 hz3 ⊢
 have HB3 := Lh (HB2.out.trans (hB3.mono (by omega)))
 have H7 := Lh (H7.out.low hB3)
 have H10 := Lh (H10.out.low hB3)
 have H11 := Lh (H11.out.low hB3)
 have H12 := Lh (H12.out.low hB3)
 have hod3 : OdV w3 w3.heap.size o Ap Aw cp cw := ⟨(hod.p.low hB3 (Nat.le_refl _)).more (by omega), (hod.w.low hB3 (Nat.le_refl _)).more (by omega)⟩
 have Hod := Lh hod3
 have Hms := Lh hms
 have hz23 := hz3
 rw [hob] at hx3 hz3 ⊢
 have H15 := Lh (show BoxN ob 38 #[.bool o.lpo, .slice Ap o.prec.length cp, .slice Aw o.weights.length cw, .int .i64 o.var] w3 from hx3)
 have hwo : w.heap.size ≤ ob := by have := HB2.out.size; omega
 have hbw3 := HB3.out.size
 have hprop := fun (f : Int) (ts : List Tm) (v2 : Value) (w' : World) (hb : Below w.heap.size w w') (h1 : Rd w' B (.sl 2 (encTms ts)) v2) (h2 : sizeTs ts ≤ 2000000) => proper_any sig A cs0 f ts v2 B w' (HS.out.low hb hB) (by omega) h1 h2 (by have := hb.size; omega)
 have Hprop := Lh hprop
 have q7 := H7.out.cell
 obtain ⟨s0, s1, -⟩ := H10.out.cells
 clear hx3 hB3 hod hod3 hms hprop hob Hmk
 go_wp2_with fail
 refine (Hprop.out fx xs _ w3 HB3.out (HX.out.low HB3.out hB) (by omega)).mono ?_
 rintro e w4 ⟨b, rfl, hb4, hPx⟩
 have hz4 := hb4.size
 have HB4 := Lh (HB3.out.trans (hb4.mono (by omega)))
 have H34 := Lh hb4
 clear hb4 q7 s0 s1
 cases b with
 | false =>
   clear hPx
   go_wp2_with fail
   refine (orders_any w4).mono ?_
   rintro e wE ⟨rfl, hbE⟩
   have HBE := Lh (HB4.out.trans (hbE.mono (by have := (HB4).out.size; omega)))
   clear hbE
   go_wp2_with fail
   exact bodyPost_ret (v := .bool true) (by simp [results, Tryz.results3, go_sem]) rfl ⟨rfl, HBE.out⟩
 | true =>
 have HPx := Lh (hPx rfl)
 clear hPx
 have q7 := (H7.out.low H34.out).cell
 obtain ⟨s0, s1, -⟩ := (H11.out.low H34.out).cells
 go_wp2_with fail
 refine (Hprop.out fy ys _ w4 HB4.out (HY.out.low HB4.out hB) (by omega)).mono ?_
 rintro e w5 ⟨b, rfl, hb5, hPy⟩
 have hz5 := hb5.size
 have HB5 := Lh (HB4.out.trans (hb5.mono (by omega)))
 have H35 := Lh (H34.out.trans (hb5.mono (by omega)))
 clear hb5 q7 s0 s1
 cases b with
 | false =>
   clear hPy
   go_wp2_with fail
   refine (orders_any w5).mono ?_
   rintro e wE ⟨rfl, hbE⟩
   have HBE := Lh (HB5.out.trans (hbE.mono (by have := (HB5).out.size; omega)))
   clear hbE
   go_wp2_with fail
   exact bodyPost_ret (v := .bool true) (by simp [results, Tryz.results3, go_sem]) rfl ⟨rfl, HBE.out⟩
 | true =>
 have HPy := Lh (hPy rfl)
 clear hPy
 have q7 := (H7.out.low H35.out).cell
 obtain ⟨s0, s1, -⟩ := (H12.out.low H35.out).cells
 go_wp2_with fail
 refine (Hprop.out fz zs _ w5 HB5.out (HZ.out.low HB5.out hB) (by omega)).mono ?_
 rintro e w6 ⟨b, rfl, hb6, hPz⟩
 have hz6 := hb6.size
 have HB6 := Lh (HB5.out.trans (hb6.mono (by omega)))
 have H36 := Lh (H35.out.trans (hb6.mono (by omega)))
 clear hb6 q7 s0 s1
 cases b with
 | false =>
   clear hPz
   go_wp2_with fail
   refine (orders_any w6).mono ?_
   rintro e wE ⟨rfl, hbE⟩
   have HBE := Lh (HB6.out.trans (hbE.mono (by have := (HB6).out.size; omega)))
   clear hbE
   go_wp2_with fail
   exact bodyPost_ret (v := .bool true) (by simp [results, Tryz.results3, go_sem]) rfl ⟨rfl, HBE.out⟩
 | true =>
 have HPz := Lh (hPz rfl)
 clear hPz
 go_wp2_with fail
 refine (check04_any put _ B w6 (HP.out.low HB6.out hB) (by omega)).mono ?_
 rintro e w7 ⟨n, rfl, hb7⟩
 have hz7 := hb7.size
 have HB7 := Lh (HB6.out.trans (hb7.mono (by omega)))
 have H37 := Lh (H36.out.trans (hb7.mono (by omega)))
 clear hb7
 by_cases h0 : n = 0
 rotate_left
 · have hnb : (n != 0) = true := by rw [bne_iff_ne]; exact h0
   clear h0
   go_wp2_with fail
   refine (orders_any w7).mono ?_
   rintro e wE ⟨rfl, hbE⟩
   have HBE := Lh (HB7.out.trans (hbE.mono (by have := (HB7).out.size; omega)))
   clear hbE
   go_wp2_with fail
   exact bodyPost_ret (v := .bool true) (by simp [results, Tryz.results3, go_sem]) rfl ⟨rfl, HBE.out⟩
 have hnb : (n != 0) = false := by rw [h0]; rfl
 clear h0
 by_cases h48 : 48 < put.length
 · have h48' : (48 : Int) < (put.length : Int) := by omega
   go_wp2_with fail
   refine (orders_any w7).mono ?_
   rintro e wE ⟨rfl, hbE⟩
   have HBE := Lh (HB7.out.trans (hbE.mono (by have := (HB7).out.size; omega)))
   clear hbE
   go_wp2_with fail
   exact bodyPost_ret (v := .bool true) (by simp [results, Tryz.results3, go_sem]) rfl ⟨rfl, HBE.out⟩
 have h48' : ¬ (48 : Int) < (put.length : Int) := by omega
 go_wp2_with fail
 go_loopw [69] (fun i wr => ∃ k : Nat, k ≤ put.length ∧ i = .int .i64 k ∧ (∀ j (h : j < put.length), j < k → PrP sig put[j].2) ∧ Below w7.heap.size w7 wr) (fun i _ => put.length - (intOf i).toNat)
 case atStart => exact ⟨0, Nat.zero_le _, rfl, fun j _ h => by omega, Below.refl _ _⟩
 obtain ⟨k, hk, rfl, hal, hbel⟩ := hrel
 have hzr := hbel.size
 have Hal := Lh hal
 have Hbel := Lh hbel
 have HBr := Lh (HB7.out.trans (hbel.mono (by omega)))
 have H3r := Lh (H37.out.trans (hbel.mono (by omega)))
 clear hal hbel
 by_cases hlt : k < put.length
 · have hlt2 : ¬ ((put.length : Int) ≤ (k : Int)) := by omega
   obtain ⟨ab, off, x, f, ts, A2, c2, hA, hpk, hab, k0, k1, k2, hrt⟩ := (HP.out.low HBr.out hB).bd_at hlt
   subst hA
   have hst := Hsp.out put[k] (List.getElem_mem hlt)
   rw [hpk] at hst
   have hst : sizeT (.mk f ts) ≤ 1100000 := hst
   rw [sizeT] at hst
   have hpr := fun (w' : World) (hb : Below wr.heap.size wr w') => Hprop.out f ts (.slice A2 ts.length c2) w' (HBr.out.trans (hb.mono (by omega))) (hrt.low hb (by omega)) (by omega)
   have hpe : PrP sig (.mk f ts) → PrP sig put[k].2 := fun h => by rw [hpk]; exact h
   have Hpr := Lh hpr
   have Hpe := Lh hpe
   have K1 := Lh k1
   have K2 := Lh k2
   have H7r := Lh (H7.out.low H3r.out)
   clear hpr hpe k0 k1 k2 hrt hpk
   go_upto_region 9 with fail
   refine rg 8 (fun _ w' => Below wr.heap.size wr w') ?_
   intro wd hwd hbd
   refine ⟨?_, fun hS => ?_⟩
   · exact hwd ▸ hbd
   refine tk 0 (.agg #[.slice A sig.length cs0]) hS ?_ fun hS => ?_
   · intro w' L hn hw
     have o0 := (H7r.out.low hw).cell
     simp [execOp, go_sem, o0]
   refine ta 1 (.slice (some ⟨ab, off, none⟩) put.length cpp) hS fun hS => ?_
   refine ta 2 (.int .i64 (k : Nat)) hS fun hS => ?_
   refine tk 3 (.pointer (some ⟨ab, off + k * 3, none⟩)) hS ?_ fun hS => ?_
   · intros; simp [execOp, go_sem, hlt, hlt2]
   refine ta 4 (.pointer (some ⟨ab, off + k * 3 + 1, none⟩)) hS fun hS => ?_
   refine tk 5 (.agg #[.int .i64 f, .slice A2 ts.length c2]) hS ?_ fun hS => ?_
   · intro w' L hn hw
     have o5 := (hw.cell (p := ⟨ab, off + k * 3 + 1, none⟩) (show ab < wr.heap.size by omega)).trans K1.out
     have o6 := (hw.cell (p := ⟨ab, off + k * 3 + 2, none⟩) (show ab < wr.heap.size by omega)).trans K2.out
     simp [execOp, go_sem, o5, o6]
   refine so 6 ?_
   refine wp_enter (by simp [execOp, go_sem]) (Hpr.out wd (hwd ▸ hbd)) ?_
   rintro e wq ⟨b, rfl, hbq, hPk⟩
   refine ⟨_, rfl, ?_⟩
   refine gS ?_ fun hS => ?_
   · exact hS.trans (hbq.mono hS.size)
   refine ta 7 (.bool (!b)) hS fun hS => ?_
   refine dn ?_
   have HSq := Lh hS
   have hsq := hS.size
   have HPk := Lh hPk
   clear hS hPk hbq hwd hbd
   cases b with
   | false =>
     have HBq := Lh (HBr.out.trans (HSq.out.mono (by omega)))
     go_wp2_with fail
     refine (orders_any wq).mono ?_
     rintro e wE ⟨rfl, hbE⟩
     have HBE := Lh (HBq.out.trans (hbE.mono (by have := (HBq).out.size; omega)))
     clear hbE
     go_wp2_with fail
     exact bodyPost_ret (v := .bool true) (by simp [results, Tryz.results3, go_sem]) rfl ⟨rfl, HBE.out⟩
   | true =>
     go_wp2_with fail
     go_roundw
     case rel =>
      refine ⟨k + 1, by omega, by go_num, fun j hj hjk => ?_, Hbel.out.trans (HSq.out.mono (by omega))⟩
      by_cases hjk2 : j = k
      · subst hjk2; exact Hpe.out (HPk.out rfl)
      exact Hal.out j hj (by omega)
     case measure => simp [intOf]; omega
 have hall : ∀ p ∈ put, PrP sig p.2 := fun p hp => by
  obtain ⟨j, hj, rfl⟩ := List.getElem_of_mem hp
  exact Hal.out j hj (by omega)
 have Hall := Lh hall
 clear hall Hal
 have ok := made_ord Hms.out HPx.out.1
 obtain ⟨wx1, lx1, lx2⟩ := HPx.out.wf
 obtain ⟨wy1, ly1, ly2⟩ := HPy.out.wf
 obtain ⟨wz1, lz1, lz2⟩ := HPz.out.wf
 have sx : sizeT (.mk fx xs) ≤ 30 := HPx.out.2.2.2.1
 have sy : sizeT (.mk fy ys) ≤ 30 := HPy.out.2.2.2.1
 have sz : sizeT (.mk fz zs) ≤ 30 := HPz.out.2.2.2.1
 have hcmp := fun (w' : World) (hb : Below wr.heap.size wr w') (f g : Int) (us vs : List Tm) (v1 v2 : Value) (h1 : wfT (arS sig) (.mk f us)) (h2 : wfT (arS sig) (.mk g vs)) (h3 : sizeT (.mk f us) + sizeT (.mk g vs) ≤ 100000) (h4 : lowG (.mk f us) = true) (h5 : lowG (.mk g vs) = true) (r1 : Rd w' w'.heap.size (.sl 2 (encTms us)) v1) (r2 : Rd w' w'.heap.size (.sl 2 (encTms vs)) v2) =>
  cmp_any ok.od f g us vs v1 v2 Ap Aw cp cw w'.heap.size w' h1 h2 h3 h4 h5 ⟨(Hod.out.p.low (H3r.out.trans (hb.mono (by omega))) (Nat.le_refl _)).more (by have := hb.size; omega), (Hod.out.w.low (H3r.out.trans (hb.mono (by omega))) (Nat.le_refl _)).more (by have := hb.size; omega)⟩ r1 r2 (Nat.le_refl _)
 have hrx := fun (w' : World) (hb : Below wr.heap.size wr w') => (HX.out.low (HBr.out.trans (hb.mono (by omega))) hB).more (B' := w'.heap.size) (by have := hb.size; omega)
 have hry := fun (w' : World) (hb : Below wr.heap.size wr w') => (HY.out.low (HBr.out.trans (hb.mono (by omega))) hB).more (B' := w'.heap.size) (by have := hb.size; omega)
 have hrz := fun (w' : World) (hb : Below wr.heap.size wr w') => (HZ.out.low (HBr.out.trans (hb.mono (by omega))) hB).more (B' := w'.heap.size) (by have := hb.size; omega)
 have hxy := fun (w' : World) (hb : Below wr.heap.size wr w') => hcmp w' hb fx fy xs ys _ _ wx1 wy1 (by omega) lx1 ly1 (hrx w' hb) (hry w' hb)
 have hyz := fun (w' : World) (hb : Below wr.heap.size wr w') => hcmp w' hb fy fz ys zs _ _ wy1 wz1 (by omega) ly1 lz1 (hry w' hb) (hrz w' hb)
 have hxz := fun (w' : World) (hb : Below wr.heap.size wr w') => hcmp w' hb fx fz xs zs _ _ wx1 wz1 (by omega) lx1 lz1 (hrx w' hb) (hrz w' hb)
 have hxx := fun (w' : World) (hb : Below wr.heap.size wr w') => hcmp w' hb fx fx xs xs _ _ wx1 wx1 (by omega) lx1 lx1 (hrx w' hb) (hrx w' hb)
 have hyx := fun (w' : World) (hb : Below wr.heap.size wr w') => hcmp w' hb fy fx ys xs _ _ wy1 wx1 (by omega) ly1 lx1 (hry w' hb) (hrx w' hb)
 have hsm := fun (w' : World) (hb : Below wr.heap.size wr w') => same02_any fx fy xs ys _ _ w'.heap.size w' (hrx w' hb) (hry w' hb) (Nat.le_refl _)
 have hvx := fun (w' : World) (hb : Below wr.heap.size wr w') => vars02_any fx xs _ w'.heap.size w' HPx.out.low (by omega) (hrx w' hb) (Nat.le_refl _)
 have hvy := fun (w' : World) (hb : Below wr.heap.size wr w') => vars02_any fy ys _ w'.heap.size w' HPy.out.low (by omega) (hry w' hb) (Nat.le_refl _)
 obtain ⟨a, ha⟩ : ∃ a, ocmp o (.mk fx xs) (.mk fy ys) = a := ⟨_, rfl⟩
 obtain ⟨b, hbb⟩ : ∃ b, ocmp o (.mk fy ys) (.mk fz zs) = b := ⟨_, rfl⟩
 obtain ⟨c, hcc⟩ : ∃ c, ocmp o (.mk fx xs) (.mk fz zs) = c := ⟨_, rfl⟩
 have hyxe : ocmp o (.mk fy ys) (.mk fx xs) = a.turn := by rw [← ha]; exact ocmp_turn wx1 wy1
 have hsme : eqB (.mk fx xs) (.mk fy ys) = (a.int == 2) := by
  by_cases he : (Tm.mk fx xs) = .mk fy ys
  · rw [he, ocmp_self] at ha
    rw [he, eqB_self, ← ha]; rfl
  rw [eqB_ne he]
  cases a with
  | eq => exact absurd (ocmp_eq ha) he
  | no => rfl
  | lt => rfl
  | gt => rfl
 have hcgt : a = .gt → b = .gt → c = .gt := fun h1 h2 => by rw [← hcc]; exact ocmp_trans ok wx1 wy1 wz1 (by rw [ha, h1]) (by rw [hbb, h2])
 have hgr : vL (.mk fx xs) = [] → vL (.mk fy ys) = [] → a ≠ .no := fun h1 h2 => by rw [← ha]; exact ocmp_ground ok wx1 wy1 h1 h2
 rw [ha] at hxy
 rw [hbb] at hyz
 rw [hcc] at hxz
 rw [ocmp_self] at hxx
 rw [hyxe] at hyx
 rw [hsme] at hsm
 have hsub : ∀ f t, subOf put f = some t → PrP sig t := fun f t h => by
  obtain ⟨q, hq, rfl⟩ := getL_mem h
  exact Hall.out q hq
 have hap := fun (f : Int) (us : List Tm) (v2 : Value) (hl : lowT (.mk f us) = true) (hz : sizeTs us ≤ 2000000) (w' : World) (hb : Below wr.heap.size wr w') (r1 : Rd w' w'.heap.size (.sl 2 (encTms us)) v2) =>
  apply04_any put (fun q hq => by have := (Hall.out q hq).2.2.2.1; omega) (sizeTs us + 1) f us v2 _ w'.heap.size w' (Nat.lt_succ_self _) ⟨hz, hl⟩ r1 ((HP.out.low (HBr.out.trans (hb.mono (by omega))) hB).more (by have := hb.size; omega)) (Nat.le_refl _)
 obtain ⟨gX, uX, heX⟩ : ∃ g u, putU (subOf put) (.mk fx xs) = .mk g u := by cases putU (subOf put) (.mk fx xs); exact ⟨_, _, rfl⟩
 obtain ⟨gY, uY, heY⟩ : ∃ g u, putU (subOf put) (.mk fy ys) = .mk g u := by cases putU (subOf put) (.mk fy ys); exact ⟨_, _, rfl⟩
 have hax := fun (w' : World) (hb : Below wr.heap.size wr w') => hap fx xs _ lx2 (by omega) w' hb (hrx w' hb)
 have hay := fun (w' : World) (hb : Below wr.heap.size wr w') => hap fy ys _ ly2 (by omega) w' hb (hry w' hb)
 rw [heX] at hax
 rw [heY] at hay
 have hgp : a = .gt → ∀ (w' : World) (hb : Below wr.heap.size wr w') (v1 v2 : Value) (r1 : Rd w' w'.heap.size (.sl 2 (encTms uX)) v1) (r2 : Rd w' w'.heap.size (.sl 2 (encTms uY)) v2), Calls Tryz.prog 8 #[.agg #[.bool o.lpo, .slice Ap o.prec.length cp, .slice Aw o.weights.length cw, .int .i64 o.var], .agg #[.int .i64 gX, v1], .agg #[.int .i64 gY, v2]] w' (RlRes .gt w') := fun h1 w' hb v1 v2 r1 r2 => by
  have hw1 := putU_wf (fun f t h => (hsub f t h).wf.1) _ _ (Nat.lt_succ_self _) wx1
  have hw2 := putU_wf (fun f t h => (hsub f t h).wf.1) _ _ (Nat.lt_succ_self _) wy1
  have hg1 := lowG_putU (subOf put) (fun f t h => (hsub f t h).wf.2.1) _ _ (Nat.lt_succ_self _) lx1
  have hg2 := lowG_putU (subOf put) (fun f t h => (hsub f t h).wf.2.1) _ _ (Nat.lt_succ_self _) ly1
  have hs1 := size_putU (subOf put) 30 (by decide) (fun f t h => (hsub f t h).2.2.2.1) _ _ (Nat.lt_succ_self (sizeT (.mk fx xs)))
  have hs2 := size_putU (subOf put) 30 (by decide) (fun f t h => (hsub f t h).2.2.2.1) _ _ (Nat.lt_succ_self (sizeT (.mk fy ys)))
  have hgt := ocmp_put ok (subOf put) (fun f t h => (hsub f t h).wf.1) wx1 wy1 (by rw [ha, h1])
  rw [heX] at hw1 hg1 hs1 hgt
  rw [heY] at hw2 hg2 hs2 hgt
  have := hcmp w' hb gX gY uX uY v1 v2 hw1 hw2 (by omega) hg1 hg2 r1 r2
  rw [hgt] at this
  exact this
 have Hax := Lh hax
 have Hay := Lh hay
 have Hgp := Lh hgp
 clear hax hay hgp hap hsub heX heY
 have Ha := Lh ha
 have Hok := Lh ok
 have Hcmp := Lh hcmp
 have Hrx := Lh hrx
 have Hry := Lh hry
 have Hxy := Lh hxy
 have Hyz := Lh hyz
 have Hxz := Lh hxz
 have Hxx := Lh hxx
 have Hyx := Lh hyx
 have Hsm := Lh hsm
 have Hvx := Lh hvx
 have Hvy := Lh hvy
 have Hcgt := Lh hcgt
 have Hgr := Lh hgr
 have Hwx := Lh wx1
 have Hwy := Lh wy1
 have Hly := Lh ly1
 have Hlx := Lh lx1
 have Hl2 := Lh (And.intro lx2 ly2)
 have Hsx := Lh sx
 have Hsy := Lh sy
 have hX10 := Lh (H10.out.low H3r.out)
 have hX11 := Lh (H11.out.low H3r.out)
 have hX12 := Lh (H12.out.low H3r.out)
 have hX15 := Lh (H15.out.low H3r.out)
 have hobl : ob < wr.heap.size := by have := H3r.out.size; omega
 have hll : b10 < wr.heap.size ∧ b11 < wr.heap.size ∧ b12 < wr.heap.size := by have := H3r.out.size; omega
 have HBw := Lh HBr.out
 clear ha hbb hcc hyxe hsme hcgt hgr hxy hyz hxz hxx hyx hsm hvx hvy hcmp hrx hry hrz ok wx1 lx1 lx2 wy1 ly1 ly2 wz1 lz1 lz2 sx sy sz
 go_upto_region 12 with fail
 refine bu 15 (fun w' => Below wr.heap.size wr w') (fun wd hwd hbd => ?_) ?_
 · exact hwd ▸ hbd
 refine ru 0 (.agg #[.bool o.lpo, .slice Ap o.prec.length cp, .slice Aw o.weights.length cw, .int .i64 o.var]) (fun w' hw => ?_) ?_
 · have o0 : w'.cell? ⟨ob, 0, none⟩ = some (.bool o.lpo) := (hX15.out.low hw).cell 0
   have o1 : w'.cell? ⟨ob, 1, none⟩ = some (.slice Ap o.prec.length cp) := (hX15.out.low hw).cell 1
   have o2 : w'.cell? ⟨ob, 2, none⟩ = some (.slice Aw o.weights.length cw) := (hX15.out.low hw).cell 2
   have o3 : w'.cell? ⟨ob, 3, none⟩ = some (.int .i64 o.var) := (hX15.out.low hw).cell 3
   simp [execOp, go_sem, o0, o1, o2, o3]
 refine ru 1 (.agg #[.int .i64 fx, .slice Ax xs.length cx]) (fun w' hw => ?_) ?_
 · have p0 := (hX10.out.low hw).cells.1
   have p1 := (hX10.out.low hw).cells.2.1
   simp [execOp, go_sem, p0, p1]
 refine ru 2 (.agg #[.int .i64 fy, .slice Ay ys.length cy]) (fun w' hw => ?_) ?_
 · have r0 := (hX11.out.low hw).cells.1
   have r1 := (hX11.out.low hw).cells.2.1
   simp [execOp, go_sem, r0, r1]
 refine cu 3 (.int .i64 a.int) (fun w' hw => (Hxy.out w' hw).mono ?_) ?_
 · rintro e w2 ⟨rfl, hb⟩
   exact ⟨rfl, hw.trans (hb.mono hw.size)⟩
 refine ru 4 (.agg #[.bool o.lpo, .slice Ap o.prec.length cp, .slice Aw o.weights.length cw, .int .i64 o.var]) (fun w' hw => ?_) ?_
 · have o0 : w'.cell? ⟨ob, 0, none⟩ = some (.bool o.lpo) := (hX15.out.low hw).cell 0
   have o1 : w'.cell? ⟨ob, 1, none⟩ = some (.slice Ap o.prec.length cp) := (hX15.out.low hw).cell 1
   have o2 : w'.cell? ⟨ob, 2, none⟩ = some (.slice Aw o.weights.length cw) := (hX15.out.low hw).cell 2
   have o3 : w'.cell? ⟨ob, 3, none⟩ = some (.int .i64 o.var) := (hX15.out.low hw).cell 3
   simp [execOp, go_sem, o0, o1, o2, o3]
 refine ru 5 (.agg #[.int .i64 fy, .slice Ay ys.length cy]) (fun w' hw => ?_) ?_
 · have r0 := (hX11.out.low hw).cells.1
   have r1 := (hX11.out.low hw).cells.2.1
   simp [execOp, go_sem, r0, r1]
 refine ru 6 (.agg #[.int .i64 fz, .slice Az zs.length cz]) (fun w' hw => ?_) ?_
 · have s0 := (hX12.out.low hw).cells.1
   have s1 := (hX12.out.low hw).cells.2.1
   simp [execOp, go_sem, s0, s1]
 refine cu 7 (.int .i64 b.int) (fun w' hw => (Hyz.out w' hw).mono ?_) ?_
 · rintro e w2 ⟨rfl, hb⟩
   exact ⟨rfl, hw.trans (hb.mono hw.size)⟩
 refine ru 8 (.agg #[.bool o.lpo, .slice Ap o.prec.length cp, .slice Aw o.weights.length cw, .int .i64 o.var]) (fun w' hw => ?_) ?_
 · have o0 : w'.cell? ⟨ob, 0, none⟩ = some (.bool o.lpo) := (hX15.out.low hw).cell 0
   have o1 : w'.cell? ⟨ob, 1, none⟩ = some (.slice Ap o.prec.length cp) := (hX15.out.low hw).cell 1
   have o2 : w'.cell? ⟨ob, 2, none⟩ = some (.slice Aw o.weights.length cw) := (hX15.out.low hw).cell 2
   have o3 : w'.cell? ⟨ob, 3, none⟩ = some (.int .i64 o.var) := (hX15.out.low hw).cell 3
   simp [execOp, go_sem, o0, o1, o2, o3]
 refine ru 9 (.agg #[.int .i64 fx, .slice Ax xs.length cx]) (fun w' hw => ?_) ?_
 · have p0 := (hX10.out.low hw).cells.1
   have p1 := (hX10.out.low hw).cells.2.1
   simp [execOp, go_sem, p0, p1]
 refine ru 10 (.agg #[.int .i64 fz, .slice Az zs.length cz]) (fun w' hw => ?_) ?_
 · have s0 := (hX12.out.low hw).cells.1
   have s1 := (hX12.out.low hw).cells.2.1
   simp [execOp, go_sem, s0, s1]
 refine cu 11 (.int .i64 c.int) (fun w' hw => (Hxz.out w' hw).mono ?_) ?_
 · rintro e w2 ⟨rfl, hb⟩
   exact ⟨rfl, hw.trans (hb.mono hw.size)⟩
 refine pu 12 (.int .i64 a.int) ?_
 refine pu 13 (.int .i64 b.int) ?_
 refine pu 14 (.int .i64 c.int) ?_
 refine du (fun wz hS => ?_)
 have HSa := Lh hS
 have hza := hS.size
 clear hS
 go_upto_region 13 with fail
 go_cut [115] from 94 to 115 (fun v w' => v = .bool false ∧ Below wr.heap.size wr w')
 case first =>
  have o0 : wz.cell? ⟨ob, 0, none⟩ = some (.bool o.lpo) := (hX15.out.low HSa.out).cell 0
  have o1 : wz.cell? ⟨ob, 1, none⟩ = some (.slice Ap o.prec.length cp) := (hX15.out.low HSa.out).cell 1
  have o2 : wz.cell? ⟨ob, 2, none⟩ = some (.slice Aw o.weights.length cw) := (hX15.out.low HSa.out).cell 2
  have o3 : wz.cell? ⟨ob, 3, none⟩ = some (.int .i64 o.var) := (hX15.out.low HSa.out).cell 3
  have p0 := (hX10.out.low HSa.out).cells.1
  have p1 := (hX10.out.low HSa.out).cells.2.1
  have r0 := (hX11.out.low HSa.out).cells.1
  have r1 := (hX11.out.low HSa.out).cells.2.1
  go_wp2_with fail
  refine (Hxx.out wz HSa.out).mono ?_
  rintro e wq ⟨rfl, hb⟩
  have hzq := hb.size
  have HSq := Lh (HSa.out.trans (hb.mono hza))
  rw [show (Rl.eq).int = 2 from rfl]
  clear o0 o1 o2 o3 p0 p1 r0 r1 hb
  have o0 : wq.cell? ⟨ob, 0, none⟩ = some (.bool o.lpo) := (hX15.out.low HSq.out).cell 0
  have o1 : wq.cell? ⟨ob, 1, none⟩ = some (.slice Ap o.prec.length cp) := (hX15.out.low HSq.out).cell 1
  have o2 : wq.cell? ⟨ob, 2, none⟩ = some (.slice Aw o.weights.length cw) := (hX15.out.low HSq.out).cell 2
  have o3 : wq.cell? ⟨ob, 3, none⟩ = some (.int .i64 o.var) := (hX15.out.low HSq.out).cell 3
  have p0 := (hX10.out.low HSq.out).cells.1
  have p1 := (hX10.out.low HSq.out).cells.2.1
  have r0 := (hX11.out.low HSq.out).cells.1
  have r1 := (hX11.out.low HSq.out).cells.2.1
  go_wp2_with fail
  refine (Hyx.out wq HSq.out).mono ?_
  rintro e wp ⟨rfl, hb⟩
  have hzp := hb.size
  have HSp := Lh (HSq.out.trans (hb.mono (by omega)))
  clear o0 o1 o2 o3 p0 p1 r0 r1 hb
  go_wp2_with fail
  refine (turn_any a wp).mono ?_
  rintro e wp' ⟨rfl, rfl⟩
  have o0 : wp'.cell? ⟨ob, 0, none⟩ = some (.bool o.lpo) := (hX15.out.low HSp.out).cell 0
  have o1 : wp'.cell? ⟨ob, 1, none⟩ = some (.slice Ap o.prec.length cp) := (hX15.out.low HSp.out).cell 1
  have o2 : wp'.cell? ⟨ob, 2, none⟩ = some (.slice Aw o.weights.length cw) := (hX15.out.low HSp.out).cell 2
  have o3 : wp'.cell? ⟨ob, 3, none⟩ = some (.int .i64 o.var) := (hX15.out.low HSp.out).cell 3
  have p0 := (hX10.out.low HSp.out).cells.1
  have p1 := (hX10.out.low HSp.out).cells.2.1
  have r0 := (hX11.out.low HSp.out).cells.1
  have r1 := (hX11.out.low HSp.out).cells.2.1
  obtain ⟨ai, hai⟩ : ∃ n, a.turn.int = n := ⟨_, rfl⟩
  rw [hai]
  go_wp2_with fail
  refine (Hsm.out wp' HSp.out).mono ?_
  rintro e wo ⟨rfl, hb⟩
  have HSo := Lh (HSp.out.trans (hb.mono (by omega)))
  clear o0 o1 o2 o3 p0 p1 r0 r1 hb hai
  obtain ⟨ab2, hab2⟩ : ∃ n, (a.int == 2) = n := ⟨_, rfl⟩
  rw [hab2]
  have hbb : (ab2 != ab2) = false := by cases ab2 <;> rfl
  go_wp2_with fail
  go_meet
  case rel => exact ⟨rfl, HSo.out⟩
 case rest =>
  obtain ⟨rfl, hbc⟩ := hcut
  have HSc := Lh hbc
  have hzc := hbc.size
  clear hbc hza HSa
  go_upto_region 15 with fail
  go_cut [136] from 116 to 136 (fun v w' => v = .bool false ∧ Below wr.heap.size wr w')
  case first =>
   by_cases hag : a = .gt
   rotate_left
   · have ha3 : (a.int == 3) = false := by cases a with | gt => exact absurd rfl hag | no => rfl | lt => rfl | eq => rfl
     clear hag
     refine bu 21 (fun w' => Below wr.heap.size wr w') (fun wd hwd hbd => ?_) ?_
     · exact HSc.out.trans ((hwd ▸ hbd : Below wc.heap.size wc wd).mono hzc)
     refine pu 0 (.int .i64 a.int) ?_
     refine ru 1 (.bool false) (fun w' hw => ?_) ?_
     · simp [execOp, go_sem, ha3]
     refine pu 2 (.bool false) ?_
     refine su 3 ?_
     refine su 4 ?_
     refine su 5 ?_
     refine su 6 ?_
     refine su 7 ?_
     refine su 8 ?_
     refine su 9 ?_
     refine su 10 ?_
     refine su 11 ?_
     refine su 12 ?_
     refine su 13 ?_
     refine su 14 ?_
     refine su 15 ?_
     refine su 16 ?_
     refine su 17 ?_
     refine su 18 ?_
     refine su 19 ?_
     refine pu 20 (.bool false) ?_
     refine du (fun wz hS => ?_)
     have HSz := Lh hS
     clear hS
     go_wp2_with fail
     go_meet
     case rel => exact ⟨rfl, HSz.out⟩
   have ha3 : (a.int == 3) = true := by rw [hag]; rfl
   have Hgp2 := Lh (Hgp.out hag)
   by_cases hbg : b = .gt
   · have hb3 : (b.int == 3) = true := by rw [hbg]; rfl
     have hc3 : (c.int != 3) = false := by rw [Hcgt.out hag hbg]; rfl
     clear hag hbg
     refine rg 21 (fun _ w' => Below wr.heap.size wr w') ?_
     intro wd hwd hbd
     refine ⟨?_, fun hS => ?_⟩
     · exact HSc.out.trans ((hwd ▸ hbd : Below wc.heap.size wc wd).mono hzc)
     refine ta 0 (.int .i64 a.int) hS fun hS => ?_
     refine tk 1 (.bool true) hS ?_ fun hS => ?_
     · intros; simp [execOp, go_sem, ha3]
     refine ta 2 (.bool true) hS fun hS => ?_
     refine ta 3 (.int .i64 b.int) hS fun hS => ?_
     refine tk 4 (.bool true) hS ?_ fun hS => ?_
     · intros; simp [execOp, go_sem, hb3]
     refine ta 5 (.bool true) hS fun hS => ?_
     refine ta 6 (.int .i64 c.int) hS fun hS => ?_
     refine tk 7 (.bool false) hS ?_ fun hS => ?_
     · intros; simp [execOp, go_sem, hc3]
     refine ta 8 (.bool false) hS fun hS => ?_
     refine ta 9 (.bool false) hS fun hS => ?_
     refine tk 10 (.agg #[.bool o.lpo, .slice Ap o.prec.length cp, .slice Aw o.weights.length cw, .int .i64 o.var]) hS ?_ fun hS => ?_
     · intro w' L hn hw
       have o0 : w'.cell? ⟨ob, 0, none⟩ = some (.bool o.lpo) := (hX15.out.low hw).cell 0
       have o1 : w'.cell? ⟨ob, 1, none⟩ = some (.slice Ap o.prec.length cp) := (hX15.out.low hw).cell 1
       have o2 : w'.cell? ⟨ob, 2, none⟩ = some (.slice Aw o.weights.length cw) := (hX15.out.low hw).cell 2
       have o3 : w'.cell? ⟨ob, 3, none⟩ = some (.int .i64 o.var) := (hX15.out.low hw).cell 3
       simp [execOp, go_sem, o0, o1, o2, o3]
     refine ta 11 (.slice App put.length cpp) hS fun hS => ?_
     refine tk 12 (.agg #[.int .i64 fx, .slice Ax xs.length cx]) hS ?_ fun hS => ?_
     · intro w' L hn hw
       have p0 := (hX10.out.low hw).cells.1
       have p1 := (hX10.out.low hw).cells.2.1
       simp [execOp, go_sem, p0, p1]
     refine ta 14 (.slice App put.length cpp) hS fun hS => ?_
     refine tk 15 (.agg #[.int .i64 fy, .slice Ay ys.length cy]) hS ?_ fun hS => ?_
     · intro w' L hn hw
       have r0 := (hX11.out.low hw).cells.1
       have r1 := (hX11.out.low hw).cells.2.1
       simp [execOp, go_sem, r0, r1]
     refine so 13 ?_
     refine wp_enter (by simp [execOp, go_sem]) (Hax.out wd hS) ?_
     rintro e wm ⟨A3, c3, rfl, hr3, hb3'⟩
     have hr3 := hr3.rd'
     have hzm := hb3'.size
     refine ⟨_, rfl, ?_⟩
     refine gS ?_ fun hS => ?_
     · exact hS.trans (hb3'.mono hS.size)
     refine so 16 ?_
     refine wp_enter (by simp [execOp, go_sem]) (Hay.out wm hS) ?_
     rintro e wf ⟨A4, c4, rfl, hr4, hb4'⟩
     have hr4 := hr4.rd'
     have hzm2 := hb4'.size
     have hr3 := (hr3.low hb4' (Nat.le_refl _)).more (B' := wf.heap.size) hzm2
     refine ⟨_, rfl, ?_⟩
     refine gS ?_ fun hS => ?_
     · exact hS.trans (hb4'.mono hS.size)
     refine so 17 ?_
     refine wp_enter (by simp [execOp, go_sem, Tm.fn, Tm.args]) (Hgp2.out wf hS (.slice A3 uX.length c3) (.slice A4 uY.length c4) hr3 hr4) ?_
     rintro e wg ⟨rfl, hb5⟩
     refine ⟨_, rfl, ?_⟩
     refine gS ?_ fun hS => ?_
     · exact hS.trans (hb5.mono hS.size)
     refine ta 18 (.bool false) hS fun hS => ?_
     refine ta 19 (.bool false) hS fun hS => ?_
     refine ta 20 (.bool false) hS fun hS => ?_
     refine dn ?_
     have HSz := Lh hS
     clear hS
     go_wp2_with fail
     go_meet
     case rel => exact ⟨rfl, HSz.out⟩
   have hb3 : (b.int == 3) = false := by cases b with | gt => exact absurd rfl hbg | no => rfl | lt => rfl | eq => rfl
   have hc3 := trivial
   clear hag hbg
   refine rg 21 (fun _ w' => Below wr.heap.size wr w') ?_
   intro wd hwd hbd
   refine ⟨?_, fun hS => ?_⟩
   · exact HSc.out.trans ((hwd ▸ hbd : Below wc.heap.size wc wd).mono hzc)
   refine ta 0 (.int .i64 a.int) hS fun hS => ?_
   refine tk 1 (.bool true) hS ?_ fun hS => ?_
   · intros; simp [execOp, go_sem, ha3]
   refine ta 2 (.bool true) hS fun hS => ?_
   refine ta 3 (.int .i64 b.int) hS fun hS => ?_
   refine tk 4 (.bool false) hS ?_ fun hS => ?_
   · intros; simp [execOp, go_sem, hb3]
   refine ta 5 (.bool false) hS fun hS => ?_
   refine sk 6 hS fun hS => ?_
   refine sk 7 hS fun hS => ?_
   refine ta 8 (.bool false) hS fun hS => ?_
   refine ta 9 (.bool false) hS fun hS => ?_
   refine tk 10 (.agg #[.bool o.lpo, .slice Ap o.prec.length cp, .slice Aw o.weights.length cw, .int .i64 o.var]) hS ?_ fun hS => ?_
   · intro w' L hn hw
     have o0 : w'.cell? ⟨ob, 0, none⟩ = some (.bool o.lpo) := (hX15.out.low hw).cell 0
     have o1 : w'.cell? ⟨ob, 1, none⟩ = some (.slice Ap o.prec.length cp) := (hX15.out.low hw).cell 1
     have o2 : w'.cell? ⟨ob, 2, none⟩ = some (.slice Aw o.weights.length cw) := (hX15.out.low hw).cell 2
     have o3 : w'.cell? ⟨ob, 3, none⟩ = some (.int .i64 o.var) := (hX15.out.low hw).cell 3
     simp [execOp, go_sem, o0, o1, o2, o3]
   refine ta 11 (.slice App put.length cpp) hS fun hS => ?_
   refine tk 12 (.agg #[.int .i64 fx, .slice Ax xs.length cx]) hS ?_ fun hS => ?_
   · intro w' L hn hw
     have p0 := (hX10.out.low hw).cells.1
     have p1 := (hX10.out.low hw).cells.2.1
     simp [execOp, go_sem, p0, p1]
   refine ta 14 (.slice App put.length cpp) hS fun hS => ?_
   refine tk 15 (.agg #[.int .i64 fy, .slice Ay ys.length cy]) hS ?_ fun hS => ?_
   · intro w' L hn hw
     have r0 := (hX11.out.low hw).cells.1
     have r1 := (hX11.out.low hw).cells.2.1
     simp [execOp, go_sem, r0, r1]
   refine so 13 ?_
   refine wp_enter (by simp [execOp, go_sem]) (Hax.out wd hS) ?_
   rintro e wm ⟨A3, c3, rfl, hr3, hb3'⟩
   have hr3 := hr3.rd'
   have hzm := hb3'.size
   refine ⟨_, rfl, ?_⟩
   refine gS ?_ fun hS => ?_
   · exact hS.trans (hb3'.mono hS.size)
   refine so 16 ?_
   refine wp_enter (by simp [execOp, go_sem]) (Hay.out wm hS) ?_
   rintro e wf ⟨A4, c4, rfl, hr4, hb4'⟩
   have hr4 := hr4.rd'
   have hzm2 := hb4'.size
   have hr3 := (hr3.low hb4' (Nat.le_refl _)).more (B' := wf.heap.size) hzm2
   refine ⟨_, rfl, ?_⟩
   refine gS ?_ fun hS => ?_
   · exact hS.trans (hb4'.mono hS.size)
   refine so 17 ?_
   refine wp_enter (by simp [execOp, go_sem, Tm.fn, Tm.args]) (Hgp2.out wf hS (.slice A3 uX.length c3) (.slice A4 uY.length c4) hr3 hr4) ?_
   rintro e wg ⟨rfl, hb5⟩
   refine ⟨_, rfl, ?_⟩
   refine gS ?_ fun hS => ?_
   · exact hS.trans (hb5.mono hS.size)
   refine ta 18 (.bool false) hS fun hS => ?_
   refine ta 19 (.bool false) hS fun hS => ?_
   refine ta 20 (.bool false) hS fun hS => ?_
   refine dn ?_
   have HSz := Lh hS
   clear hS
   go_wp2_with fail
   go_meet
   case rel => exact ⟨rfl, HSz.out⟩
  case rest =>
   obtain ⟨rfl, hbc⟩ := hcut
   have HSc := Lh hbc
   have hzc := hbc.size
   clear hbc
   go_upto_region 17 with fail
   go_cut [150] from 137 to 150 (fun v w' => v = .bool false ∧ Below wr.heap.size wr w')
   case first =>
    have p0 := (hX10.out.low HSc.out).cells.1
    have p1 := (hX10.out.low HSc.out).cells.2.1
    go_wp2_with fail
    refine (Hvx.out wc HSc.out).mono ?_
    rintro e wq ⟨Av, nv, cv, rfl, hn0, hnv, hb⟩
    have hzq := hb.size
    have HSq := Lh (HSc.out.trans (hb.mono hzc))
    clear p0 p1 hb
    by_cases h0 : nv = 0
    rotate_left
    · have hnb : ((nv : Int) == 0) = false := by rw [beq_eq_false_iff_ne]; omega
      clear h0 hn0
      go_wp2_with fail
      go_meet
      case rel => exact ⟨rfl, HSq.out⟩
    have hnb : ((nv : Int) == 0) = true := by rw [h0]; rfl
    have Hv0 := Lh (hn0 h0)
    clear h0 hn0
    have r0 := (hX11.out.low HSq.out).cells.1
    have r1 := (hX11.out.low HSq.out).cells.2.1
    go_wp2_with fail
    refine (Hvy.out wq HSq.out).mono ?_
    rintro e wp ⟨Aw2, nw, cw2, rfl, hn0, hnw, hb⟩
    have HSp := Lh (HSq.out.trans (hb.mono (by omega)))
    clear r0 r1 hb
    by_cases h0 : nw = 0
    rotate_left
    · have hnb2 : ((nw : Int) == 0) = false := by rw [beq_eq_false_iff_ne]; omega
      clear h0 hn0
      go_wp2_with fail
      go_meet
      case rel => exact ⟨rfl, HSp.out⟩
    have hnb2 : ((nw : Int) == 0) = true := by rw [h0]; rfl
    have hao := Hgr.out Hv0.out (hn0 h0)
    have ha0 : (a.int == 0) = false := by cases a with | no => exact absurd rfl hao | lt => rfl | eq => rfl | gt => rfl
    clear h0 hn0 hao
    go_wp2_with fail
    go_meet
    case rel => exact ⟨rfl, HSp.out⟩
   case rest =>
    obtain ⟨rfl, hbc⟩ := hcut
    have HSc := Lh hbc
    have hzc := hbc.size
    clear hbc
    have p0 := (hX10.out.low HSc.out).cells.1
    have p1 := (hX10.out.low HSc.out).cells.2.1
    go_wp2_with fail
    clear p0 p1
    obtain ⟨wa, rfl⟩ : ∃ wa : World, wa = wr := ⟨_, rfl⟩
    go_loopw [154] (fun i wj => ∃ k : Nat, k ≤ xs.length ∧ i = .int .i64 k ∧ Below wa.heap.size wa wj) (fun i _ => xs.length - (intOf i).toNat)
    case atStart => exact ⟨0, Nat.zero_le _, rfl, HSc.out⟩
    obtain ⟨k, hk, rfl, hbel⟩ := hrel
    have hzr2 := hbel.size
    have Hbl := Lh hbel
    clear hbel
    by_cases hlt : k < xs.length
    · have hlt2 : ¬ ((xs.length : Int) ≤ (k : Int)) := by omega
      obtain ⟨sb, sq, f1, us, A2, c2, hA, hxk, hsb, k0, k1, hr1⟩ := (Hrx.out wr Hbl.out).tm_at hlt
      subst hA
      have hmem : Tm.mk f1 us ∈ xs := by rw [← hxk]; exact List.getElem_mem hlt
      have hxs : xs[k]? = some (Tm.mk f1 us) := by rw [List.getElem?_eq_getElem hlt, hxk]
      have hwf1 := Hwx.out.args hmem
      have hlg := lowG_arg Hlx.out hmem
      have hs1 := sizeT_arg (f := fx) hmem
      have hsx := Hsx.out
      have hsy := Hsy.out
      have hsx2 : sizeT (.mk fx xs) = sizeTs xs + 1 := by rw [sizeT]
      have hca := fun (w' : World) (hb : Below wr.heap.size wr w') => Hcmp.out w' (Hbl.out.trans (hb.mono (by omega))) fx f1 xs us _ (.slice A2 us.length c2) Hwx.out hwf1 (by omega) Hlx.out hlg (Hrx.out w' (Hbl.out.trans (hb.mono (by omega)))) ((hr1.low hb (Nat.le_refl _)).more (by have := hb.size; omega))
      have hcd := fun (w' : World) (hb : Below wr.heap.size wr w') => Hcmp.out w' (Hbl.out.trans (hb.mono (by omega))) f1 fy us ys (.slice A2 us.length c2) _ hwf1 Hwy.out (by omega) hlg Hly.out ((hr1.low hb (Nat.le_refl _)).more (by have := hb.size; omega)) (Hry.out w' (Hbl.out.trans (hb.mono (by omega))))
      rw [ocmp_arg Hok.out Hwx.out hmem] at hca
      obtain ⟨d, hd⟩ : ∃ d, ocmp o (.mk f1 us) (.mk fy ys) = d := ⟨_, rfl⟩
      rw [hd] at hcd
      have hlx2 : lowGs xs = true := by have := Hlx.out; rw [lowG, Bool.and_eq_true] at this; exact this.2
      have hlf : decide (-1000000000 ≤ fx) = true := by have := Hlx.out; rw [lowG, Bool.and_eq_true] at this; exact this.1
      have hss := sizeTs_set (.mk fy ys) xs k
      have hci := fun (h1 : d = .gt) (w' : World) (hb : Below wr.heap.size wr w') (v : Value) (r : Rd w' w'.heap.size (.sl 2 (encTms (xs.set k (.mk fy ys)))) v) => Hcmp.out w' (Hbl.out.trans (hb.mono (by omega))) fx fx xs (xs.set k (.mk fy ys)) _ v Hwx.out (wfT_set Hwx.out Hwy.out hlt) (by rw [sizeT, sizeT]; omega) Hlx.out (by rw [lowG, hlf, lowGs_set Hly.out xs k hlx2]; rfl) (Hrx.out w' (Hbl.out.trans (hb.mono (by omega)))) r
      have hcg : d = .gt → ocmp o (.mk fx xs) (.mk fx (xs.set k (.mk fy ys))) = .gt := fun h1 => ocmp_set Hwx.out Hwy.out hxs (by rw [hd, h1])
      have hpt := fun (w' : World) (hb : Below wr.heap.size wr w') (vp : Value) (rp : Rd w' w'.heap.size (encIs [((k : Nat) : Int)]) vp) => put02_any [((k : Nat) : Int)] fx fy xs ys _ vp _ w'.heap.size w' (Hrx.out w' (Hbl.out.trans (hb.mono (by omega)))) rp (Hry.out w' (Hbl.out.trans (hb.mono (by omega)))) (Nat.le_refl _) (by omega) (by omega)
      rw [putO_one hlt] at hpt
      have Hca := Lh hca
      have Hcd := Lh hcd
      have Hci := Lh hci
      have Hcg := Lh hcg
      have Hpt := Lh hpt
      have K0 := Lh k0
      have K1 := Lh k1
      have hY10 := Lh (hX10.out.low Hbl.out)
      have hY11 := Lh (hX11.out.low Hbl.out)
      have hY15 := Lh (hX15.out.low Hbl.out)
      clear hca hcd hci hcg hpt k0 k1 hr1 hxk hxs hwf1 hlg hs1 hsx hsy hsx2 hlx2 hlf hss hd hmem
      go_upto_region 22 with fail
      refine bu 9 (fun w' => Below wr.heap.size wr w') (fun wd hwd hbd => ?_) ?_
      · exact hwd ▸ hbd
      refine ru 0 (.agg #[.bool o.lpo, .slice Ap o.prec.length cp, .slice Aw o.weights.length cw, .int .i64 o.var]) (fun w' hw => ?_) ?_
      · have o0 : w'.cell? ⟨ob, 0, none⟩ = some (.bool o.lpo) := (hY15.out.low hw).cell 0
        have o1 : w'.cell? ⟨ob, 1, none⟩ = some (.slice Ap o.prec.length cp) := (hY15.out.low hw).cell 1
        have o2 : w'.cell? ⟨ob, 2, none⟩ = some (.slice Aw o.weights.length cw) := (hY15.out.low hw).cell 2
        have o3 : w'.cell? ⟨ob, 3, none⟩ = some (.int .i64 o.var) := (hY15.out.low hw).cell 3
        simp [execOp, go_sem, o0, o1, o2, o3]
      refine ru 1 (.agg #[.int .i64 fx, .slice (some ⟨sb, sq, none⟩) xs.length cx]) (fun w' hw => ?_) ?_
      · have p0 := (hY10.out.low hw).cells.1
        have p1 := (hY10.out.low hw).cells.2.1
        simp [execOp, go_sem, p0, p1]
      refine pu 2 (.pointer (some ⟨b10, 1, none⟩)) ?_
      refine ru 3 (.slice (some ⟨sb, sq, none⟩) xs.length cx) (fun w' hw => ?_) ?_
      · have p1 := (hY10.out.low hw).cells.2.1
        simp [execOp, go_sem, p1]
      refine pu 4 (.int .i64 (k : Nat)) ?_
      refine ru 5 (.pointer (some ⟨sb, sq + k * 2, none⟩)) (fun w' hw => ?_) ?_
      · simp [execOp, go_sem, hlt, hlt2]
      refine ru 6 (.agg #[.int .i64 f1, .slice A2 us.length c2]) (fun w' hw => ?_) ?_
      · have o5 := (hw.cell (p := ⟨sb, sq + k * 2, none⟩) (show sb < wr.heap.size by omega)).trans K0.out
        have o6 := (hw.cell (p := ⟨sb, sq + k * 2 + 1, none⟩) (show sb < wr.heap.size by omega)).trans K1.out
        simp [execOp, go_sem, o5, o6]
      refine cu 7 (.int .i64 3) (fun w' hw => (Hca.out w' hw).mono ?_) ?_
      · rintro e w2 ⟨rfl, hb⟩
        exact ⟨rfl, hw.trans (hb.mono hw.size)⟩
      refine pu 8 (.bool false) ?_
      refine du (fun wz hS => ?_)
      have HSz := Lh hS
      have hbz := hS.size
      have p0 := (hY10.out.low hS).cells.1
      have p1 := (hY10.out.low hS).cells.2.1
      have r0 := (hY11.out.low hS).cells.1
      have r1 := (hY11.out.low hS).cells.2.1
      have hb11 : b11 < wz.heap.size := by omega
      clear hS
      go_wp2_with fail
      have hxk := heap_alloc_new wz (.cells #[.int .i64 (k : Nat)] 3)
      have hxk : BoxN wz.heap.size 3 #[.int .i64 (k : Nat)] _ := hxk
      have hbk := below_box wz (.cells #[.int .i64 (k : Nat)] 3)
      generalize wz.alloc (.cells #[.int .i64 (k : Nat)] 3) = wk at hxk hbk ⊢
      have hzk := hbk.size
      have HSk := Lh (HSz.out.trans (hbk.mono hbz))
      refine (Hpt.out wk HSk.out _ (rd_one_int hxk)).mono ?_
      rintro e wp ⟨hbp, A5, c5, rfl, hrp⟩
      have hzp := hbp.size
      have hrp := hrp.rd'
      have HSp := Lh (HSk.out.trans (hbp.mono (by omega)))
      clear p0 p1 r0 r1 hxk hbk hbp
      simp only [Tm.fn, Tm.args] at hrp ⊢
      have Hrp := Lh hrp
      rw [List.length_set] at Hrp ⊢
      clear hrp
      go_upto_region 25 with fail
      have hxi := heap_alloc_new wp (.cells #[.int .i64 fx, .slice A5 xs.length c5] 32)
      have hxi : Box2 wp.heap.size 32 (.int .i64 fx) (.slice A5 xs.length c5) _ := hxi
      have hbi := below_box wp (.cells #[.int .i64 fx, .slice A5 xs.length c5] 32)
      have hzi : wp.heap.size < (wp.alloc (.cells #[.int .i64 fx, .slice A5 xs.length c5] 32)).heap.size := by simp
      generalize wp.alloc (.cells #[.int .i64 fx, .slice A5 xs.length c5] 32) = wi at hxi hbi hzi ⊢
      have HSi := Lh (HSp.out.trans (hbi.mono (by omega)))
      have Hxi := Lh hxi
      have Hrpi := Lh ((Hrp.out.low hbi (Nat.le_refl _)).more (B' := wi.heap.size) (by omega))
      have hiw : wr.heap.size ≤ wi.heap.size := by omega
      clear hxi hbi
      refine bu 9 (fun w' => Below wi.heap.size wi w') (fun wd hwd hbd => ?_) ?_
      · exact hwd ▸ hbd
      refine ru 0 (.agg #[.bool o.lpo, .slice Ap o.prec.length cp, .slice Aw o.weights.length cw, .int .i64 o.var]) (fun w' hw => ?_) ?_
      · have hw2 := HSi.out.trans (hw.mono hiw)
        have o0 : w'.cell? ⟨ob, 0, none⟩ = some (.bool o.lpo) := (hY15.out.low hw2).cell 0
        have o1 : w'.cell? ⟨ob, 1, none⟩ = some (.slice Ap o.prec.length cp) := (hY15.out.low hw2).cell 1
        have o2 : w'.cell? ⟨ob, 2, none⟩ = some (.slice Aw o.weights.length cw) := (hY15.out.low hw2).cell 2
        have o3 : w'.cell? ⟨ob, 3, none⟩ = some (.int .i64 o.var) := (hY15.out.low hw2).cell 3
        simp [execOp, go_sem, o0, o1, o2, o3]
      refine pu 1 (.pointer (some ⟨b10, 1, none⟩)) ?_
      refine ru 2 (.slice (some ⟨sb, sq, none⟩) xs.length cx) (fun w' hw => ?_) ?_
      · have hw2 := HSi.out.trans (hw.mono hiw)
        have p1 := (hY10.out.low hw2).cells.2.1
        simp [execOp, go_sem, p1]
      refine pu 3 (.int .i64 (k : Nat)) ?_
      refine ru 4 (.pointer (some ⟨sb, sq + k * 2, none⟩)) (fun w' hw => ?_) ?_
      · simp [execOp, go_sem, hlt, hlt2]
      refine ru 5 (.agg #[.int .i64 f1, .slice A2 us.length c2]) (fun w' hw => ?_) ?_
      · have hw2 := HSi.out.trans (hw.mono hiw)
        have o5 := (hw2.cell (p := ⟨sb, sq + k * 2, none⟩) (show sb < wr.heap.size by omega)).trans K0.out
        have o6 := (hw2.cell (p := ⟨sb, sq + k * 2 + 1, none⟩) (show sb < wr.heap.size by omega)).trans K1.out
        simp [execOp, go_sem, o5, o6]
      refine ru 6 (.agg #[.int .i64 fy, .slice Ay ys.length cy]) (fun w' hw => ?_) ?_
      · have hw2 := HSi.out.trans (hw.mono hiw)
        have r0 := (hY11.out.low hw2).cells.1
        have r1 := (hY11.out.low hw2).cells.2.1
        simp [execOp, go_sem, r0, r1]
      refine cu 7 (.int .i64 d.int) (fun w' hw => (Hcd.out w' (HSi.out.trans (hw.mono hiw))).mono ?_) ?_
      · rintro e w2 ⟨rfl, hb⟩
        exact ⟨rfl, hw.trans (hb.mono hw.size)⟩
      refine pu 8 (.int .i64 d.int) ?_
      refine du (fun wz hS => ?_)
      have HSj := Lh (HSi.out.trans (hS.mono hiw))
      have hbj := hS.size
      have Hxj := Lh (Hxi.out.low hS)
      have Hrpj := Lh ((Hrpi.out.low hS (Nat.le_refl _)).more (B' := wz.heap.size) (by omega))
      clear hS
      by_cases hdg : d = .gt
      rotate_left
      · have hd3 : (d.int == 3) = false := by cases d with | gt => exact absurd rfl hdg | no => rfl | lt => rfl | eq => rfl
        clear hdg
        go_wp2_with fail
        go_roundw
        case rel => exact ⟨k + 1, by omega, by go_num, Hbl.out.trans (HSj.out.mono (by omega))⟩
        case measure => simp [intOf]; omega
      have hd3 : (d.int == 3) = true := by rw [hdg]; rfl
      have hcl := Hci.out hdg wz HSj.out _ Hrpj.out
      rw [Hcg.out hdg] at hcl
      have Hcl := Lh hcl
      have o0 : wz.cell? ⟨ob, 0, none⟩ = some (.bool o.lpo) := (hY15.out.low HSj.out).cell 0
      have o1 : wz.cell? ⟨ob, 1, none⟩ = some (.slice Ap o.prec.length cp) := (hY15.out.low HSj.out).cell 1
      have o2 : wz.cell? ⟨ob, 2, none⟩ = some (.slice Aw o.weights.length cw) := (hY15.out.low HSj.out).cell 2
      have o3 : wz.cell? ⟨ob, 3, none⟩ = some (.int .i64 o.var) := (hY15.out.low HSj.out).cell 3
      have p0 := (hY10.out.low HSj.out).cells.1
      have p1 := (hY10.out.low HSj.out).cells.2.1
      obtain ⟨x0, x1, -⟩ := Hxj.out.cells
      clear hdg hcl
      go_wp2_with fail
      refine Hcl.out.mono ?_
      rintro e wl ⟨rfl, hbl⟩
      have HSl := Lh (HSj.out.trans (hbl.mono (by omega)))
      rw [show (Rl.gt).int = 3 from rfl]
      clear o0 o1 o2 o3 p0 p1 x0 x1 hbl
      go_wp2_with fail
      go_roundw
      case rel => exact ⟨k + 1, by omega, by go_num, Hbl.out.trans (HSl.out.mono (by omega))⟩
      case measure => simp [intOf]; omega
    have HBX := Lh (HBw.out.trans (Hbl.out.mono (by have := HBw.out.size; omega)))
    go_wp2_with fail
    refine (orders_any wr).mono ?_
    rintro e wE ⟨rfl, hbE⟩
    have HBE := Lh (HBX.out.trans (hbE.mono (by have := (HBX).out.size; omega)))
    clear hbE
    go_wp2_with fail
    exact bodyPost_ret (v := .bool true) (by simp [results, Tryz.results3, go_sem]) rfl ⟨rfl, HBE.out⟩
end Go.Proofs.YtbkpkahhdlomiaaGreat
namespace Go.Proofs.YtbkpkahhdlomiaaGreat
open Go.RowKit Go.ChangeShapes Go.WideShapes Go.ChangeAt
mutual
def rngT : Tm → Bool
 | .mk f xs => decide (-9223372036854775808 ≤ f) && rngTs xs
def rngTs : List Tm → Bool
 | [] => true
 | x :: xs => rngT x && rngTs xs
end
def rngL (x : Lt) : Bool := rngT x.l && rngT x.r
def sizeL (x : Lt) : Nat := sizeT x.l + sizeT x.r
def sizeC (c : Cl) : Nat := (c.map sizeL).sum
theorem getD_lt {α : Type} (l : List α) (j : Nat) (d : α) (h : j < l.length) : l[j]? = some (l[j]?.getD d) := by
 rw [List.getElem?_eq_getElem h]; rfl
theorem list_of {α : Type} {Q : Nat → α → Prop} : ∀ {n : Nat}, (∀ i, i < n → ∃ x, Q i x) → ∃ l : List α, l.length = n ∧ ∀ i (hi : i < l.length), Q i l[i]
 | 0, _ => ⟨[], rfl, fun i hi => by simp at hi⟩
 | n + 1, h => by
   obtain ⟨l, hl, hq⟩ := list_of (n := n) fun i hi => h i (by omega)
   obtain ⟨x, hx⟩ := h n (by omega)
   refine ⟨l ++ [x], by simp [hl], fun i hi => ?_⟩
   by_cases h1 : i < l.length
   · rw [List.getElem_append_left h1]; exact hq i h1
   have h2 : i = l.length := by simp at hi; omega
   subst h2
   rw [List.getElem_append_right (Nat.le_refl _)]
   simp only [Nat.sub_self, List.getElem_cons_zero]
   rw [hl]; exact hx
theorem rd_rows {α : Type} {w : World} {B size b off len cap : Nat} {Q : Nat → α → Prop} (e : α → List Tr) (he : ∀ x, (e x).length = size) (hlc : len ≤ cap) (hn : len ≤ 140737488351232) (hm : cap ≤ maxLen) (hb : b < B)
 (h : ∀ i, i < len → ∃ x : α, ∃ us : Nat → Value, (∀ j, j < size → w.cell? ⟨b, off + i * size + j, none⟩ = some (us j)) ∧ (∀ j (h' : j < (e x).length), Rd w B (e x)[j] (us j)) ∧ Q i x) :
 ∃ xs : List α, Rd w B (.sl size (xs.map e)) (.slice (some ⟨b, off, none⟩) len cap) ∧ xs.length = len ∧ ∀ i (hi : i < xs.length), Q i xs[i] := by
 obtain ⟨l, hl, hq⟩ := list_of (α := α × (Nat → Value)) (Q := fun i p => (∀ j, j < size → w.cell? ⟨b, off + i * size + j, none⟩ = some (p.2 j)) ∧ (∀ j (h' : j < (e p.1).length), Rd w B (e p.1)[j] (p.2 j)) ∧ Q i p.1)
  (fun i hi => by obtain ⟨x, us, h⟩ := h i hi; exact ⟨(x, us), h⟩)
 refine ⟨l.map (·.1), ?_, by simp [hl], fun i hi => ?_⟩
 · have hlen : ((l.map (·.1)).map e).length = len := by simp [hl]
   have := Rd.row (w := w) (B := B) size b off cap ((l.map (·.1)).map e) (fun k j => ((l[k]?.map (·.2)).getD (fun _ => undef)) j)
    (by intro r hr; obtain ⟨x, _, rfl⟩ := List.mem_map.1 hr; exact he x) (by omega) (by omega) hm hb
    (fun k j hk hj => by
      have hk' : k < l.length := by omega
      rw [List.getElem?_eq_getElem hk']
      exact (hq k hk').1 j hj)
    (fun k hk j hj => by
      have hk' : k < l.length := by omega
      rw [List.getElem?_eq_getElem hk']
      simp only [List.getElem_map] at hj ⊢
      exact (hq k hk').2.1 j hj)
   rw [hlen] at this
   exact this
 have hi' : i < l.length := by simpa using hi
 rw [List.getElem_map]
 exact (hq i hi').2.2
theorem int_wf {n : Int} (h : (Lit.int .i64 n).wf = true) : -9223372036854775808 ≤ n ∧ n ≤ 9223372036854775807 := by
 simp [Lit.wf, IntKind.min, IntKind.max, IntKind.bits, IntKind.signed] at h
 omega
theorem sum_le {α : Type} (f : α → Nat) : ∀ {xs : List α} {bl : List Nat}, xs.length = bl.length → (∀ i (h : i < xs.length) (h' : i < bl.length), f xs[i] ≤ bl[i]) → (xs.map f).sum ≤ bl.sum
 | [], bl, h, _ => by simp
 | x :: xs, [], h, _ => by simp at h
 | x :: xs, b :: bl, h, hh => by
   have h0 := hh 0 (by simp) (by simp)
   have := sum_le f (xs := xs) (bl := bl) (by simpa using h) fun i hi hi' => by
    have := hh (i + 1) (by simpa using hi) (by simpa using hi')
    simpa using this
   simp only [List.getElem_cons_zero] at h0
   simp only [List.map_cons, List.sum_cons]
   omega
theorem mem_le_sum : ∀ {bl : List Nat} {i : Nat} (h : i < bl.length), bl[i] ≤ bl.sum
 | [], i, h => by simp at h
 | b :: bl, 0, _ => by simp
 | b :: bl, i + 1, h => by
   have := mem_le_sum (bl := bl) (i := i) (by simpa using h)
   simp only [List.getElem_cons_succ, List.sum_cons]
   omega
section
variable {H : Type} {enc : TypeId × Value → H} {w : World}
theorem bulk_pos (d : DataW H) : 1 ≤ Rows.uptoBulk d := by
 cases d with
 | lit l => cases l <;> simp [Rows.uptoBulk]
 | nil => simp [Rows.uptoBulk]
 | ptr d => simp [Rows.uptoBulk]
 | slice elems spare => simp [Rows.uptoBulk]
 | agg parts => simp [Rows.uptoBulk]
 | iface t d => simp [Rows.uptoBulk]
 | map entries => simp [Rows.uptoBulk]
 | held h => simp [Rows.uptoBulk]
theorem bulk_sum : ∀ l : List (DataW H), Rows.uptoBulkAll l = (l.map Rows.uptoBulk).sum
 | [] => by simp [Rows.uptoBulkAll]
 | d :: l => by simp [Rows.uptoBulkAll, bulk_sum l]
theorem bulk_len : ∀ l : List (DataW H), l.length ≤ Rows.uptoBulkAll l
 | [] => by simp
 | d :: l => by have := bulk_len l; have := bulk_pos d; simp only [Rows.uptoBulkAll, List.length_cons]; omega
def Reads (enc : TypeId × Value → H) (w : World) (t : TypeId) (cs : List Value) (fuel n : Nat) : Prop :=
 ∃ x, DataW.trod enc Tryz.prog w 0 (fun _ => true) true fuel t cs = some x ∧ Rows.uptoBulk x.1 = n
theorem cell_spot {a : Addr} {v : Value} (h : w.cell? a = some v) : a.spot = none ∧ a.block < w.heap.size := by
 unfold World.cell? at h
 split at h
 · rename_i c t f hb
   split at h
   · cases h
   rename_i hs
   exact ⟨by simpa using hs, (Array.getElem?_eq_some_iff.1 hb).1⟩
 cases h
theorem add_add {b off m j : Nat} : ((⟨b, off, none⟩ : Addr).add m).add j = ⟨b, off + m + j, none⟩ := by
 unfold Addr.add
 by_cases h1 : m = 0
 · subst h1
   by_cases h2 : j = 0
   · subst h2; rfl
   simp [h2]
 by_cases h2 : j = 0
 · subst h2; simp [h1]
 simp [h1, h2]
theorem Reads.slice {t e size fuel n : Nat} {v : Value} (hu : Tryz.prog.underlying t = some (.slice e)) (hs : Tryz.prog.cellsOf e = size) (hpos : 0 < size) (hn : n ≤ 1048576) (h : Reads enc w t [v] fuel n) :
 (∃ A, v = .slice A 0 0) ∧ 1 ≤ n ∨ ∃ (b off len cap m : Nat) (bl : List Nat), fuel = m + 1 ∧ v = .slice (some ⟨b, off, none⟩) len cap ∧ len ≤ cap ∧ len ≤ 140737488351232 ∧ cap ≤ maxLen ∧ b < w.heap.size ∧ bl.length = len ∧ bl.sum + 1 ≤ n ∧ len + 1 ≤ n ∧
   ∀ i (hi : i < bl.length), ∃ cs : List Value, cs.length = size ∧ (∀ j, j < size → w.cell? ⟨b, off + i * size + j, none⟩ = cs[j]?) ∧ Reads enc w e cs m bl[i] := by
 obtain ⟨x, hx, hz⟩ := h
 have hpos1 := bulk_pos x.1
 rcases DataW.trod_slice hu hx with ⟨h1, _⟩ | ⟨a, len, cap, elems, rest, m, rfl, h1, rfl, _, hlc, hm, hel, hat, hrest, _⟩
 · injection h1 with h1
   exact .inl ⟨⟨none, h1⟩, by omega⟩
 injection h1 with h1
 subst h1
 obtain ⟨hrl, hra⟩ := hrest rfl
 rw [hs] at hat hra
 by_cases hc : cap = 0
 · subst hc
   have hl0 : len = 0 := by omega
   subst hl0
   exact .inl ⟨⟨_, rfl⟩, by omega⟩
 have hcell : ∃ cs, w.cells? 0 (a.add (0 * size)) size = some cs := by
  by_cases hl : len = 0
  · subst hl
    have := hra 0 (by omega)
    cases hcs : w.cells? 0 (a.add ((0 + 0) * size)) size with
    | some cs => exact ⟨cs, by simp⟩
    | none => rw [hcs, List.getElem?_eq_getElem (by omega)] at this; cases this
  have := hat 0 (by omega)
  cases hcs : w.cells? 0 (a.add (0 * size)) size with
  | some cs => exact ⟨cs, rfl⟩
  | none => rw [hcs, List.getElem?_eq_getElem (by omega)] at this; cases this
 obtain ⟨cs, hcs⟩ := hcell
 obtain ⟨_, hcl, hcc⟩ := World.cells?_some hcs
 have h0 := hcc 0 hpos
 rw [List.getElem?_eq_getElem (by omega)] at h0
 have ha0 : (a.add (0 * size)).add 0 = a := by simp [Addr.add]
 rw [ha0] at h0
 obtain ⟨hsp, hbl⟩ := cell_spot h0
 obtain ⟨b, off, sp⟩ := a
 simp only at hsp hbl
 subst hsp
 simp only [Rows.uptoBulk] at hz
 have hbl1 := bulk_len (elems.map (·.1))
 rw [List.length_map] at hbl1
 refine .inr ⟨b, off, len, cap, m, (elems.map (·.1)).map Rows.uptoBulk, rfl, rfl, hlc, by omega, hm, hbl, by simp [hel], by rw [← bulk_sum]; omega, by omega, fun i hi => ?_⟩
 have hie : i < elems.length := by simpa using hi
 have hi' := hat i (by omega)
 rw [List.getElem?_eq_getElem hie] at hi'
 cases hcs' : w.cells? 0 ((⟨b, off, none⟩ : Addr).add (i * size)) size with
 | none => rw [hcs'] at hi'; cases hi'
 | some cs' =>
   rw [hcs'] at hi'
   obtain ⟨_, hcl', hcc'⟩ := World.cells?_some hcs'
   refine ⟨cs', hcl', fun j hj => ?_, elems[i], hi', ?_⟩
   · rw [← hcc' j hj, add_add]
   simp
theorem Rd.nil_ {w : World} {B size : Nat} (A : Option Addr) : Rd w B (.sl size []) (.slice A 0 0) := by
 cases A with
 | none => exact .none_ _
 | some a => exact .empty _ a
theorem tm_row {m n : Nat} {cs : List Value} (hl : cs.length = 2) (hn : n ≤ 1048576) (h : Reads enc w 32 cs m n) (ih : ∀ m' v n', m' < m → n' ≤ 1048576 → Reads enc w 30 [v] m' n' → ∃ xs : List Tm, Rd w w.heap.size (.sl 2 (xs.map encTm)) v ∧ rngTs xs = true ∧ sizeTs xs + 1 ≤ n') :
 ∃ (t : Tm), ∃ us : Nat → Value, (∀ j, j < 2 → cs[j]? = some (us j)) ∧ (∀ j (h' : j < (encTm t).length), Rd w w.heap.size (encTm t)[j] (us j)) ∧ rngT t = true ∧ sizeT t ≤ n := by
 obtain ⟨c0, c1, rfl⟩ : ∃ c0 c1, cs = [c0, c1] := by
  match cs, hl with
  | [c0, c1], _ => exact ⟨_, _, rfl⟩
 obtain ⟨x, hx, hw⟩ := h
 obtain ⟨xs, m, rfl, rfl, _, hxl, hf⟩ := DataW.trod_struct Tryz.underlying32 hx
 obtain ⟨x0, x1, rfl⟩ : ∃ x0 x1, xs = [x0, x1] := by
  match xs, hxl with
  | [x0, x1], _ => exact ⟨_, _, rfl⟩
 have f0 := hf 0 _ rfl
 have f1 := hf 1 _ rfl
 simp only [List.getElem?_cons_zero, List.getElem?_cons_succ] at f0 f1
 obtain ⟨f, e0, _, hwf⟩ := DataW.trod_int Tryz.underlying3 f0
 have e0' : c0 = .int .i64 f := by injection e0
 subst e0'
 simp only [Rows.uptoBulk, Rows.uptoBulkAll, List.map_cons, List.map_nil] at hw
 obtain ⟨ts, hts, hr, hz⟩ := ih m c1 (Rows.uptoBulk x1.1) (by omega) (by omega) ⟨x1, f1, rfl⟩
 refine ⟨.mk f ts, fun j => [Value.int .i64 f, c1][j]?.getD undef, fun j hj => ?_, fun j hj => ?_, ?_, ?_⟩
 · exact getD_lt _ _ _ (by simpa using hj)
 · match j, hj with
   | 0, _ => exact .leaf _
   | 1, _ => show Rd w w.heap.size (.sl 2 (encTms ts)) c1
             rw [encTms_map]; exact hts
 · rw [rngT, hr, Bool.and_true, decide_eq_true_eq]
   exact (int_wf hwf).1
 rw [sizeT]; omega
theorem rngTs_mem : ∀ {xs : List Tm}, (∀ i (h : i < xs.length), rngT xs[i] = true) → rngTs xs = true
 | [], _ => by rw [rngTs]
 | x :: xs, h => by
   rw [rngTs, show rngT x = true from h 0 (by simp), Bool.true_and]
   exact rngTs_mem fun i hi => by have := h (i + 1) (by simpa using hi); simpa using this
theorem sizeTs_sum : ∀ xs : List Tm, sizeTs xs = (xs.map sizeT).sum
 | [] => by rw [sizeTs]; rfl
 | x :: xs => by rw [sizeTs, sizeTs_sum xs]; rfl
theorem open_tms : ∀ (fuel : Nat) (v : Value) (n : Nat), n ≤ 1048576 → Reads enc w 30 [v] fuel n → ∃ xs : List Tm, Rd w w.heap.size (.sl 2 (xs.map encTm)) v ∧ rngTs xs = true ∧ sizeTs xs + 1 ≤ n := by
 intro fuel
 induction fuel using Nat.strongRecOn with
 | ind fuel ih =>
   intro v n hn h
   rcases h.slice Tryz.underlying30 (size := 2) (by kernel_rfl) (by omega) hn with ⟨⟨A, rfl⟩, hp⟩ | ⟨b, off, len, cap, m, bl, rfl, rfl, h1, h2, h3, h4, h5, h6, -, h7⟩
   · exact ⟨[], Rd.nil_ A, by rw [rngTs], by rw [sizeTs]; omega⟩
   obtain ⟨xs, hxs, hxl, hq⟩ := rd_rows (Q := fun i t => rngT t = true ∧ ∀ h : i < bl.length, sizeT t ≤ bl[i]) encTm encTm_len h1 h2 h3 h4 fun i hi => by
    obtain ⟨cs, hl, hc, hr⟩ := h7 i (by omega)
    have := mem_le_sum (bl := bl) (i := i) (by omega)
    obtain ⟨t, us, hu, hrd, hg, hz⟩ := tm_row hl (by omega) hr (fun m' v n' hm' hn' => ih m' (by omega) v n' hn')
    exact ⟨t, us, fun j hj => (hc j hj).trans (hu j hj), hrd, hg, fun _ => hz⟩
   refine ⟨xs, hxs, rngTs_mem fun i hi => (hq i hi).1, ?_⟩
   have := sum_le sizeT (xs := xs) (bl := bl) (by omega) fun i hi hi' => (hq i hi).2 hi'
   rw [sizeTs_sum]
   omega
theorem open_cl {fuel n : Nat} {v : Value} (hn : n ≤ 1048576) (h : Reads enc w 76 [v] fuel n) : ∃ c : Cl, Rd w w.heap.size (encCl c) v ∧ (∀ x ∈ c, rngL x = true) ∧ sizeC c + 1 ≤ n := by
 rcases h.slice Tryz.underlying76 (size := 5) (by kernel_rfl) (by omega) hn with ⟨⟨A, rfl⟩, hp⟩ | ⟨b, off, len, cap, m, bl, rfl, rfl, h1, h2, h3, h4, h5, h6, -, h7⟩
 · exact ⟨[], Rd.nil_ A, by simp, by simp [sizeC]; omega⟩
 obtain ⟨xs, hxs, hxl, hq⟩ := rd_rows (Q := fun i x => rngL x = true ∧ ∀ h : i < bl.length, sizeL x ≤ bl[i]) encLt encLt_len h1 h2 h3 h4 fun i hi => by
  obtain ⟨cs, hl, hc, hr⟩ := h7 i (by omega)
  have hbi := mem_le_sum (bl := bl) (i := i) (by omega)
  obtain ⟨c0, c1, c2, c3, c4, rfl⟩ : ∃ c0 c1 c2 c3 c4, cs = [c0, c1, c2, c3, c4] := by
   match cs, hl with
   | [c0, c1, c2, c3, c4], _ => exact ⟨_, _, _, _, _, rfl⟩
  obtain ⟨x, hx, hw⟩ := hr
  obtain ⟨xs, m, rfl, rfl, _, hxl, hf⟩ := DataW.trod_struct Tryz.underlying78 hx
  obtain ⟨x0, x1, x2, rfl⟩ : ∃ x0 x1 x2, xs = [x0, x1, x2] := by
   match xs, hxl with
   | [x0, x1, x2], _ => exact ⟨_, _, _, rfl⟩
  have f0 := hf 0 _ rfl
  have f1 := hf 1 _ rfl
  have f2 := hf 2 _ rfl
  simp only [List.getElem?_cons_zero, List.getElem?_cons_succ] at f0 f1 f2
  obtain ⟨b', e0, _⟩ := DataW.trod_bool Tryz.underlying4 f0
  have e0' : c0 = .bool b' := by injection e0
  subst e0'
  simp only [Rows.uptoBulk, Rows.uptoBulkAll, List.map_cons, List.map_nil] at hw
  obtain ⟨t1, us1, hu1, hr1, hg1, hz1⟩ := tm_row (cs := [c1, c2]) rfl (n := Rows.uptoBulk x1.1) (by omega) ⟨x1, f1, rfl⟩ (fun m' v n' _ hn' => open_tms m' v n' hn')
  obtain ⟨t2, us2, hu2, hr2, hg2, hz2⟩ := tm_row (cs := [c3, c4]) rfl (n := Rows.uptoBulk x2.1) (by omega) ⟨x2, f2, rfl⟩ (fun m' v n' _ hn' => open_tms m' v n' hn')
  refine ⟨⟨b', t1, t2⟩, fun j => if j = 0 then .bool b' else if j < 3 then us1 (j - 1) else us2 (j - 3), fun j hj => ?_, fun j hj => ?_, ?_, fun _ => ?_⟩
  · rw [hc j hj]
    match j, hj with
    | 0, _ => rfl
    | 1, _ => exact hu1 0 (by omega)
    | 2, _ => exact hu1 1 (by omega)
    | 3, _ => exact hu2 0 (by omega)
    | 4, _ => exact hu2 1 (by omega)
  · cases t1
    cases t2
    match j, hj with
    | 0, _ => exact .leaf _
    | 1, _ => exact hr1 0 (by simp [encTm])
    | 2, _ => exact hr1 1 (by simp [encTm])
    | 3, _ => exact hr2 0 (by simp [encTm])
    | 4, _ => exact hr2 1 (by simp [encTm])
  · show (rngT t1 && rngT t2) = true
    rw [hg1, hg2]; rfl
  show sizeT t1 + sizeT t2 ≤ _
  omega
 refine ⟨xs, hxs, fun x hx => ?_, ?_⟩
 · obtain ⟨i, hi, rfl⟩ := List.mem_iff_getElem.1 hx
   exact (hq i hi).1
 have := sum_le sizeL (xs := xs) (bl := bl) (by omega) fun i hi hi' => (hq i hi).2 hi'
 unfold sizeC
 omega
theorem open_cls {fuel n : Nat} {v : Value} (hn : n ≤ 1048576) (h : Reads enc w 25 [v] fuel n) : ∃ cs : List Cl, Rd w w.heap.size (encCls cs) v ∧ (∀ c ∈ cs, (∀ x ∈ c, rngL x = true) ∧ sizeC c ≤ n) ∧ cs.length ≤ n := by
 rcases h.slice Tryz.underlying25 (size := 1) (by kernel_rfl) (by omega) hn with ⟨⟨A, rfl⟩, hp⟩ | ⟨b, off, len, cap, m, bl, rfl, rfl, h1, h2, h3, h4, h5, h6, h8, h7⟩
 · exact ⟨[], Rd.nil_ A, by simp, by simp⟩
 obtain ⟨xs, hxs, hxl, hq⟩ := rd_rows (Q := fun _ (c : Cl) => (∀ x ∈ c, rngL x = true) ∧ sizeC c ≤ n) (fun c => [encCl c]) (fun _ => rfl) h1 h2 h3 h4 fun i hi => by
  obtain ⟨cs, hl, hc, hr⟩ := h7 i (by omega)
  have hbi := mem_le_sum (bl := bl) (i := i) (by omega)
  obtain ⟨c0, rfl⟩ : ∃ c0, cs = [c0] := by
   match cs, hl with
   | [c0], _ => exact ⟨_, rfl⟩
  obtain ⟨c, hrd, hg, hz⟩ := open_cl (by omega) hr
  refine ⟨c, fun _ => c0, fun j hj => ?_, fun j hj => ?_, hg, by omega⟩
  · have hj0 : j = 0 := by have : j < 1 := hj; omega
    subst hj0
    exact hc 0 (by omega)
  have hj0 : j = 0 := by simp at hj; omega
  subst hj0
  exact hrd
 exact ⟨xs, hxs, fun c hc => by obtain ⟨i, hi, rfl⟩ := List.mem_iff_getElem.1 hc; exact hq i hi, by omega⟩
theorem open_sys {fuel n : Nat} {v : Value} (hn : n ≤ 1048576) (h : Reads enc w 22 [v] fuel n) : ∃ l : List Sy, Rd w w.heap.size (encSig l) v ∧ l.length ≤ n := by
 rcases h.slice Tryz.underlying22 (size := 3) (by kernel_rfl) (by omega) hn with ⟨⟨A, rfl⟩, hp⟩ | ⟨b, off, len, cap, m, bl, rfl, rfl, h1, h2, h3, h4, h5, h6, h8, h7⟩
 · exact ⟨[], Rd.nil_ A, by simp⟩
 obtain ⟨xs, hxs, hxl, hq⟩ := rd_rows (Q := fun _ (_ : Sy) => True) encSy (fun _ => rfl) h1 h2 h3 h4 fun i hi => by
  obtain ⟨cs, hl, hc, x, hx, hw⟩ := h7 i (by omega)
  obtain ⟨c0, c1, c2, rfl⟩ : ∃ c0 c1 c2, cs = [c0, c1, c2] := by
   match cs, hl with
   | [c0, c1, c2], _ => exact ⟨_, _, _, rfl⟩
  obtain ⟨xs, m, rfl, rfl, _, hxl, hf⟩ := DataW.trod_struct Tryz.underlying65 hx
  obtain ⟨x0, x1, x2, rfl⟩ : ∃ x0 x1 x2, xs = [x0, x1, x2] := by
   match xs, hxl with
   | [x0, x1, x2], _ => exact ⟨_, _, _, rfl⟩
  have f0 := hf 0 _ rfl
  have f1 := hf 1 _ rfl
  have f2 := hf 2 _ rfl
  simp only [List.getElem?_cons_zero, List.getElem?_cons_succ] at f0 f1 f2
  obtain ⟨s0, e0, _, _⟩ := DataW.trod_string Tryz.underlying9 f0
  have e0' : c0 = .string s0 := by injection e0
  subst e0'
  obtain ⟨k, e1, _, _⟩ := DataW.trod_int Tryz.underlying3 f1
  have e1' : c1 = .int .i64 k := by injection e1
  subst e1'
  obtain ⟨p, e2, _⟩ := DataW.trod_bool Tryz.underlying4 f2
  have e2' : c2 = .bool p := by injection e2
  subst e2'
  refine ⟨⟨s0, k, p⟩, fun j => [Value.string s0, Value.int .i64 k, Value.bool p][j]?.getD undef, fun j hj => ?_, fun j hj => ?_, trivial⟩
  · rw [hc j hj]; exact getD_lt _ _ _ (by simpa using hj)
  match j, hj with
  | 0, _ => exact .leaf _
  | 1, _ => exact .leaf _
  | 2, _ => exact .leaf _
 exact ⟨xs, hxs, by omega⟩
theorem encBd_len : ∀ p : Int × Tm, (encBd p).length = 3
 | (_, .mk _ _) => rfl
theorem open_sb {fuel n : Nat} {v : Value} (hn : n ≤ 1048576) (h : Reads enc w 34 [v] fuel n) : ∃ l : Sb, Rd w w.heap.size (encSb l) v ∧ (∀ p ∈ l, sizeT p.2 ≤ 1048576) := by
 rcases h.slice Tryz.underlying34 (size := 3) (by kernel_rfl) (by omega) hn with ⟨⟨A, rfl⟩, hp⟩ | ⟨b, off, len, cap, m, bl, rfl, rfl, h1, h2, h3, h4, h5, h6, h8, h7⟩
 · exact ⟨[], Rd.nil_ A, by simp⟩
 obtain ⟨xs, hxs, hxl, hq⟩ := rd_rows (Q := fun _ (p : Int × Tm) => sizeT p.2 ≤ 1048576) encBd encBd_len h1 h2 h3 h4 fun i hi => by
  obtain ⟨cs, hl, hc, hr⟩ := h7 i (by omega)
  have hbi := mem_le_sum (bl := bl) (i := i) (by omega)
  obtain ⟨c0, c1, c2, rfl⟩ : ∃ c0 c1 c2, cs = [c0, c1, c2] := by
   match cs, hl with
   | [c0, c1, c2], _ => exact ⟨_, _, _, rfl⟩
  obtain ⟨x, hx, hw⟩ := hr
  obtain ⟨xs, m, rfl, rfl, _, hxl, hf⟩ := DataW.trod_struct Tryz.underlying45 hx
  obtain ⟨x0, x1, rfl⟩ : ∃ x0 x1, xs = [x0, x1] := by
   match xs, hxl with
   | [x0, x1], _ => exact ⟨_, _, rfl⟩
  have f0 := hf 0 _ rfl
  have f1 := hf 1 _ rfl
  simp only [List.getElem?_cons_zero, List.getElem?_cons_succ] at f0 f1
  obtain ⟨k, e0, _, _⟩ := DataW.trod_int Tryz.underlying3 f0
  have e0' : c0 = .int .i64 k := by injection e0
  subst e0'
  simp only [Rows.uptoBulk, Rows.uptoBulkAll, List.map_cons, List.map_nil] at hw
  obtain ⟨t, us, hu, hr1, hg, hz⟩ := tm_row (cs := [c1, c2]) rfl (n := Rows.uptoBulk x1.1) (by omega) ⟨x1, f1, rfl⟩ (fun m' v n' _ hn' => open_tms m' v n' hn')
  refine ⟨(k, t), fun j => if j = 0 then .int .i64 k else us (j - 1), fun j hj => ?_, fun j hj => ?_, by show sizeT t ≤ 1048576; omega⟩
  · rw [hc j hj]
    match j, hj with
    | 0, _ => rfl
    | 1, _ => exact hu 0 (by omega)
    | 2, _ => exact hu 1 (by omega)
  obtain ⟨f, ys⟩ := t
  match j, hj with
  | 0, _ => exact .leaf _
  | 1, _ => exact hr1 0 (by simp [encTm])
  | 2, _ => exact hr1 1 (by simp [encTm])
 exact ⟨xs, hxs, fun p hp => by obtain ⟨i, hi, rfl⟩ := List.mem_iff_getElem.1 hp; exact hq i hi⟩
end
theorem cells_slice {W : World} {base : Nat} {t e : TypeId} {v : Value} (hu : Tryz.prog.underlying t = some (.slice e)) (h : Value.okWide Tryz.prog W .any base t v) : v.cells.toList = [v] := by
 unfold Value.okWide at h
 rw [hu] at h
 simp only [Cell.okWide, hu, Cell.ok] at h
 cases v <;> first | rfl | exact h.elim | (simp at h)
theorem open_cls_arg {H : Type} {enc : TypeId × Value → H} {W : World} {base : Nat} {v : Value} {d : DataW H} {ps : List MemPlace} (hval : Value.okWide Tryz.prog W .any base 25 v) (h : DataW.Trod enc Tryz.prog W 0 (fun _ => true) true 25 v d ps)
 (hz : Rows.uptoBulk d ≤ 1048576) : ∃ cs : List Cl, Rd W W.heap.size (encCls cs) v ∧ (∀ c ∈ cs, (∀ x ∈ c, rngL x = true) ∧ sizeC c ≤ 1048576) ∧ cs.length ≤ 1048576 := by
 obtain ⟨fuel, hf⟩ := h
 rw [cells_slice Tryz.underlying25 hval] at hf
 obtain ⟨cs, h1, h2, h3⟩ := open_cls hz ⟨_, hf, rfl⟩
 exact ⟨cs, h1, fun c hc => ⟨(h2 c hc).1, Nat.le_trans (h2 c hc).2 hz⟩, Nat.le_trans h3 hz⟩
/-! ## Behind the call -/
section
variable {H : Type} {enc : TypeId × Value → H} {W W' : World}
theorem trodAll_below : ∀ {ts : List TypeId} {vs : List Value} {ds : List (DataW H)} {ps : List MemPlace}, laidOutB Tryz.prog = true → (∀ t ∈ ts, Tryz.prog.readableRec t = true ∧ t < Tryz.prog.types.size) →
 DataW.TrodAll enc Tryz.prog W 0 (fun _ => true) true ts vs ds ps → (∀ x ∈ ps, x.block < W.heap.size) → Below W.heap.size W W' → DataW.TrodAll enc Tryz.prog W' 0 (fun b => decide (b < W.heap.size)) true ts vs ds ps
 | [], vs, ds, ps, _, _, h, _, _ => by
   cases vs <;> cases ds <;> exact h
 | t :: ts, vs, ds, ps, hl, ht, h, hlt, hb => by
   obtain ⟨v, vs', d, ds', p, q, rfl, rfl, rfl, hd, hr⟩ := trodAll_cons h
   have ht1 := ht t (List.mem_cons_self ..)
   exact ⟨p, q, Below.trod hl ht1.1 ht1.2 hd hb (fun x hx => hlt x (List.mem_append_left _ hx)), trodAll_below hl (fun u hu => ht u (List.mem_cons_of_mem _ hu)) hr (fun x hx => hlt x (List.mem_append_right _ hx)) hb, rfl⟩
theorem law_post {fn : Func} {s : ChangeSpec} {args : Array Value} {ds gs : List (DataW H)} {before : List MemPlace} (hres : fn.resultTypes = #[4]) (hv : s.vars = []) (hro : ∀ t ∈ fn.params.toList, Tryz.prog.readableRec t = true ∧ t < Tryz.prog.types.size)
 (hl : laidOutB Tryz.prog = true) (hs : s.fn H (ds ++ gs) = { results := [.lit (.bool true)], args := ds }) (hW : DataW.Whole enc Tryz.prog fn.params.toList s.vars false W args.toList ds gs before) (hb : Below W.heap.size W W') :
 s.post enc Tryz.prog fn false true false false W args (.bool true) W' := by
 have hlt := hW.lt
 have hW' := hW
 obtain ⟨p, q, hA, hV, rfl, _, _⟩ := hW'
 refine ⟨ds, gs, p ++ q, [], p, [], hW, ?_, ?_, ?_, hb.frame _, fun h => by cases h⟩
 · rw [hres, hs]
   exact trodAll_mk1 (shut_bool Tryz.underlying4 _)
 · rw [hs]
   exact trodAll_below hl hro hA (fun x hx => hlt x (List.mem_append_left _ hx)) hb
 rw [hs, hv]
 exact rfl
end
theorem open_sig_arg {H : Type} {enc : TypeId × Value → H} {W : World} {base : Nat} {v : Value} {d : DataW H} {ps : List MemPlace} (hval : Value.okWide Tryz.prog W .any base 24 v) (h : DataW.Trod enc Tryz.prog W 0 (fun _ => true) true 24 v d ps)
 (hz : Rows.uptoBulk d ≤ 1048576) : ∃ (v1 : Value) (l : List Sy), v = .agg #[v1] ∧ Rd W W.heap.size (encSig l) v1 ∧ l.length ≤ 1048576 := by
 obtain ⟨cs, rfl, hcs⟩ := okWide_struct Tryz.underlying24 hval
 have hcs : cs.size = 1 := hcs
 obtain ⟨v1, rfl⟩ : ∃ v1, cs = #[v1] := by
  match cs, hcs with
  | ⟨[v1]⟩, _ => exact ⟨v1, rfl⟩
 obtain ⟨fuel, hf⟩ := h
 have hf : DataW.trod enc Tryz.prog W 0 (fun _ => true) true fuel 24 [v1] = some (d, ps) := hf
 obtain ⟨xs, m, rfl, hd, _, hxl, hf⟩ := DataW.trod_struct Tryz.underlying24 hf
 obtain ⟨x0, rfl⟩ : ∃ x0, xs = [x0] := by
  match xs, hxl with
  | [x0], _ => exact ⟨_, rfl⟩
 have f0 := hf 0 _ rfl
 simp only [List.getElem?_cons_zero] at f0
 have hd1 : d = .agg [x0.1] := by have := congrArg Prod.fst hd; simpa using this
 subst hd1
 simp only [Rows.uptoBulk, Rows.uptoBulkAll, List.map_cons, List.map_nil] at hz
 obtain ⟨l, hl, hn⟩ := open_sys (n := Rows.uptoBulk x0.1) (by omega) ⟨x0, f0, rfl⟩
 exact ⟨v1, l, rfl, hl, by omega⟩
theorem open_sb_arg {H : Type} {enc : TypeId × Value → H} {W : World} {base : Nat} {v : Value} {d : DataW H} {ps : List MemPlace} (hval : Value.okWide Tryz.prog W .any base 34 v) (h : DataW.Trod enc Tryz.prog W 0 (fun _ => true) true 34 v d ps)
 (hz : Rows.uptoBulk d ≤ 1048576) : ∃ l : Sb, Rd W W.heap.size (encSb l) v ∧ (∀ p ∈ l, sizeT p.2 ≤ 1048576) := by
 obtain ⟨fuel, hf⟩ := h
 rw [cells_slice Tryz.underlying34 hval] at hf
 exact open_sb hz ⟨_, hf, rfl⟩
theorem open_term_arg {H : Type} {enc : TypeId × Value → H} {W : World} {base : Nat} {v : Value} {d : DataW H} {ps : List MemPlace} (hval : Value.okWide Tryz.prog W .any base 32 v) (h : DataW.Trod enc Tryz.prog W 0 (fun _ => true) true 32 v d ps)
 (hz : Rows.uptoBulk d ≤ 1048576) : ∃ (f : Int) (xs : List Tm) (v1 : Value), v = .agg #[.int .i64 f, v1] ∧ Rd W W.heap.size (.sl 2 (encTms xs)) v1 ∧ sizeTs xs ≤ 1048576 := by
 obtain ⟨cs, rfl, hcs⟩ := okWide_struct Tryz.underlying32 hval
 have hcs : cs.size = 2 := hcs
 obtain ⟨v0, v1, rfl⟩ : ∃ v0 v1, cs = #[v0, v1] := by
  match cs, hcs with
  | ⟨[v0, v1]⟩, _ => exact ⟨v0, v1, rfl⟩
 obtain ⟨fuel, hf⟩ := h
 have hf : DataW.trod enc Tryz.prog W 0 (fun _ => true) true fuel 32 [v0, v1] = some (d, ps) := hf
 obtain ⟨⟨f, xs⟩, us, hu, hr1, hg, hz2⟩ := tm_row (cs := [v0, v1]) rfl (n := Rows.uptoBulk d) hz ⟨_, hf, rfl⟩ (fun m' v n' _ hn' => open_tms m' v n' hn')
 have e0 := hu 0 (by omega)
 have e1 := hu 1 (by omega)
 simp only [List.getElem?_cons_zero, List.getElem?_cons_succ] at e0 e1
 have g0 := hr1 0 (by simp [encTm])
 have g1 := hr1 1 (by simp [encTm])
 simp only [encTm, List.getElem_cons_zero, List.getElem_cons_succ] at g0 g1
 have e0 := Option.some.inj e0
 have e1 := Option.some.inj e1
 have g0 := g0.leaf_inv
 rw [← e0] at g0
 rw [← e1] at g1
 subst g0
 exact ⟨f, xs, v1, rfl, g1, by rw [sizeT] at hz2; omega⟩
theorem open_way_arg {H : Type} {enc : TypeId × Value → H} {W : World} {base : Nat} {v : Value} {d : DataW H} {ps : List MemPlace} (hval : Value.okWide Tryz.prog W .any base 29 v) (h : DataW.Trod enc Tryz.prog W 0 (fun _ => true) true 29 v d ps) : ∃ (lp : Bool) (pr wt : Int) (tp : Bool), v = .agg #[.bool lp, .int .i64 pr, .int .i64 wt, .bool tp] := by
 obtain ⟨cs, rfl, hcs⟩ := okWide_struct Tryz.underlying29 hval
 have hcs : cs.size = 4 := hcs
 obtain ⟨v0, v1, v2, v3, rfl⟩ : ∃ v0 v1 v2 v3, cs = #[v0, v1, v2, v3] := by
  match cs, hcs with
  | ⟨[v0, v1, v2, v3]⟩, _ => exact ⟨v0, v1, v2, v3, rfl⟩
 obtain ⟨fuel, hf⟩ := h
 have hf : DataW.trod enc Tryz.prog W 0 (fun _ => true) true fuel 29 [v0, v1, v2, v3] = some (d, ps) := hf
 obtain ⟨xs, m, rfl, hd, _, hxl, hf⟩ := DataW.trod_struct Tryz.underlying29 hf
 obtain ⟨x0, x1, x2, x3, rfl⟩ : ∃ x0 x1 x2 x3, xs = [x0, x1, x2, x3] := by
  match xs, hxl with
  | [x0, x1, x2, x3], _ => exact ⟨_, _, _, _, rfl⟩
 have f0 := hf 0 _ rfl
 have f1 := hf 1 _ rfl
 have f2 := hf 2 _ rfl
 have f3 := hf 3 _ rfl
 simp only [List.getElem?_cons_zero, List.getElem?_cons_succ] at f0 f1 f2 f3
 obtain ⟨b0, e0, _⟩ := DataW.trod_bool Tryz.underlying4 f0
 obtain ⟨n1, e1, _, _⟩ := DataW.trod_int Tryz.underlying26 f1
 obtain ⟨n2, e2, _, _⟩ := DataW.trod_int Tryz.underlying27 f2
 obtain ⟨b3, e3, _⟩ := DataW.trod_bool Tryz.underlying4 f3
 have e0' : v0 = .bool b0 := by injection e0
 have e1' : v1 = .int .i64 n1 := by injection e1
 have e2' : v2 = .int .i64 n2 := by injection e2
 have e3' : v3 = .bool b3 := by injection e3
 subst e0' e1' e2' e3'
 exact ⟨_, _, _, _, rfl⟩
theorem sizL_le : ∀ c : Cl, sizL c ≤ sizeC c
 | [] => Nat.zero_le _
 | x :: xs => by
   have := sizL_le xs
   simp only [sizL, sizeC, sizeL, List.map_cons, List.sum_cons] at this ⊢
   omega
theorem sizCs_le : ∀ (cs : List Cl) (M : Nat), (∀ c ∈ cs, sizeC c ≤ M) → sizCs cs ≤ cs.length * M
 | [], _, _ => by simp [sizCs]
 | c :: cs, M, h => by
   have h1 := sizCs_le cs M fun c hc => h c (List.mem_cons_of_mem _ hc)
   have h2 := h c List.mem_cons_self
   have h3 := sizL_le c
   rw [sizCs, List.length_cons, Nat.add_mul, Nat.one_mul]
   omega
end Go.Proofs.YtbkpkahhdlomiaaGreat
namespace Go.Proofs.YtbkpkahhdlomiaaGreat
open Go.ChangeShapes Go.WideShapes Go.ChangeAt Go.RowKit
theorem Tryz.own : ownKnob Tryz.prog.godebug = none := by kernel_rfl
theorem Tryz.laidOut : laidOutB Tryz.prog = true := by kernel_rfl
theorem topOrders_lifted (os : Os) (started : os.Started) (H : Type) (enc : TypeId × Value → H) (F : Stop.Interp) :
 ReturnsInHanded {} Tryz.checked os 3 .any ((Rows.OpenSpec.upto Rows.topOrdersSpec).pre6 enc Tryz.prog Tryz.f3 Rows.topOrdersUptoRow.domain false) (((Rows.OpenSpec.upto Rows.topOrdersSpec).at F).post enc Tryz.prog Tryz.f3 false true false false) := by
 refine returnsInHanded_of_cond (C := Tryz.checked) (s := Rows.OpenSpec.upto Rows.topOrdersSpec) (k := Rows.uptoSmall) rfl Tryz.own started (by kernel_rfl) Tryz.func3
  (OpenSpec.witness (enc := enc) (C := Tryz.checked) (s := Rows.OpenSpec.upto Rows.topOrdersSpec) (k := Rows.uptoSmall) rfl false ⟨#[], #[.agg #[.slice none 0 0], .slice none 0 0, .agg #[.bool false, .int .i64 0, .int .i64 0, .bool false], .agg #[.int .i64 0, .slice none 0 0], .agg #[.int .i64 0, .slice none 0 0], .agg #[.int .i64 0, .slice none 0 0], .slice none 0 0], []⟩ 8 (by kernel_rfl) (by kernel_rfl) (by kernel_rfl)
    (x := ([.agg [.nil], .nil, .agg [.lit (.bool false), .lit (.int .i64 0), .lit (.int .i64 0), .lit (.bool false)], .agg [.lit (.int .i64 0), .nil], .agg [.lit (.int .i64 0), .nil], .agg [.lit (.int .i64 0), .nil], .nil], [], [])) (by kernel_rfl) rfl (by kernel_rfl)) ?_
 intro W base args ds gs before hval0 hW _ hk _
 have hW' := hW
 obtain ⟨p, q, hA0, hV, rfl, hfz, hnd⟩ := hW
 have hA : DataW.TrodAll enc Tryz.prog W 0 (fun _ => true) true Tryz.f3.params.toList args.toList ds p := hA0
 rw [Tryz.params3] at hA
 have hval : ∀ (j : Nat) t v, Tryz.f3.params[j]? = some t → args[j]? = some v → Value.okWide Tryz.prog W .any base t v := hval0
 rw [Tryz.params3] at hval
 obtain ⟨v0, vs0, d0, ds0, p0, q0, hargs, rfl, rfl, h0, r0⟩ := trodAll_cons hA
 obtain ⟨v1, vs1, d1, ds1, p1, q1, rfl, rfl, rfl, h1, r1⟩ := trodAll_cons r0
 obtain ⟨v2, vs2, d2, ds2, p2, q2, rfl, rfl, rfl, h2, r2⟩ := trodAll_cons r1
 obtain ⟨v3, vs3, d3, ds3, p3, q3, rfl, rfl, rfl, h3, r3⟩ := trodAll_cons r2
 obtain ⟨v4, vs4, d4, ds4, p4, q4, rfl, rfl, rfl, h4, r4⟩ := trodAll_cons r3
 obtain ⟨v5, vs5, d5, ds5, p5, q5, rfl, rfl, rfl, h5, r5⟩ := trodAll_cons r4
 obtain ⟨v6, vs6, d6, ds6, p6, q6, rfl, rfl, rfl, h6, r6⟩ := trodAll_cons r5
 obtain ⟨rfl, rfl, rfl⟩ := trodAll_nil r6
 obtain rfl : args = #[v0, v1, v2, v3, v4, v5, v6] := by cases args; simp_all
 obtain ⟨rfl, rfl⟩ := trodVars_none hV
 have hb := of_decide_eq_true hk
 simp only [List.append_nil, Rows.uptoBulkAll] at hb
 obtain ⟨u0, l0, rfl, hr0, hz0⟩ := open_sig_arg (hval 0 _ v0 rfl rfl) h0 (by omega)
 obtain ⟨l1, hr1, hg1, hz1⟩ := open_cls_arg (hval 1 _ v1 rfl rfl) h1 (by omega)
 obtain ⟨lp2, pr2, wt2, tp2, rfl⟩ := open_way_arg (hval 2 _ v2 rfl rfl) h2
 obtain ⟨f3, l3, u3, rfl, hr3, hz3⟩ := open_term_arg (hval 3 _ v3 rfl rfl) h3 (by omega)
 obtain ⟨f4, l4, u4, rfl, hr4, hz4⟩ := open_term_arg (hval 4 _ v4 rfl rfl) h4 (by omega)
 obtain ⟨f5, l5, u5, rfl, hr5, hz5⟩ := open_term_arg (hval 5 _ v5 rfl rfl) h5 (by omega)
 obtain ⟨l6, hr6, hz6⟩ := open_sb_arg (hval 6 _ v6 rfl rfl) h6 (by omega)
 have hsz : l1.length ≤ 20 → sizCs l1 ≤ 300000000 := fun h => by
  have h1 := sizCs_le l1 1048576 fun c hc => (hg1 c hc).2
  have h2 : l1.length * 1048576 ≤ 20 * 1048576 := Nat.mul_le_mul_right _ h
  omega
 refine (top_any l0 l1 lp2 pr2 wt2 tp2 f3 f4 f5 l3 l4 l5 l6 u0 v1 u3 u4 u5 v6 _ W hr0 (by omega) hr1 hsz hr3 hr4 hr5 (by omega) (by omega) (by omega) hr6 (fun p hp => by have := hz6 p hp; omega) (Nat.le_refl _)).mono fun e W' ⟨he, hb⟩ => ?_
 subst he
 exact ⟨_, rfl, law_post rfl rfl (by
  intro t ht
  rw [Tryz.params3] at ht
  simp at ht
  rcases ht with rfl | rfl | rfl | rfl | rfl <;> exact ⟨by kernel_rfl, of_decide_eq_true (by kernel_rfl)⟩) Tryz.laidOut rfl hW' hb⟩
theorem topOrders_holds : Rows.TopOrdersUptoSaid :=
 OpenClaim.holds_of_cond 3 Tryz.f3 rfl rfl rfl rfl rfl rfl rfl ⟨rfl, rfl, rfl, rfl, rfl⟩ rfl rfl rfl rfl rfl (by kernel_rfl) Tryz.func3 (by kernel_rfl)
  (of_decide_eq_true (by kernel_rfl)) (by unfold Func.isWrapper; first | (rw [if_pos (by decide +kernel)]; kernel_rfl) | (rw [if_neg (by decide +kernel)]; exact ⟨rfl, rfl⟩))
  (fun os started H enc _ F => topOrders_lifted os started H enc F)
#print axioms topOrders_holds
end Go.Proofs.YtbkpkahhdlomiaaGreat
