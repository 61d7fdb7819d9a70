/-
  Part 11 of the proof over the checker: walks and plain laws.
-/
import Derived.Test.YtiaoabfndnidiaaMJ
import Derived.Test.YtiaoabfndnidiaaRows
import Derived.ProofKit
import Derived.HandedShaped
import Derived.OpenShut
import Derived.JoinedCond
import Derived.Test.YtiaoabfndnidiaaMA
set_option maxRecDepth 100000
set_option maxHeartbeats 8000000
set_option linter.unusedSimpArgs false
set_option linter.unusedVariables false
namespace Go.Proofs.Ytiaoabfndnidiaa
open Go.RowKit
theorem clsT : SliceTy Try.prog 28 38 1 24 := sliceTy Try.underlying28 (by kernel_rfl : (Try.prog.info? 38).map (fun i => (i.zero, i.size, i.bytes)) = some (some (.slice none 0 0), 1, 24)) rfl (by decide)
theorem single_any (s : Sp) (c : Cl) (v1 v2 v3 v4 v5 vc : Value) (B : Nat) (w : World) (hru : s.rule = 2 ∨ s.rule = 3 ∨ s.rule = 6 ∨ s.rule = 7) (hs : RdS w B s v1 v2 v3 v4 v5) (hc : Rd w B (encCl c) vc) (hB : B ≤ w.heap.size) (hf : FairC c) :
 Calls Try.prog 49 #[.agg #[.int .i64 s.rule, v1, v2, v3, v4, v5], vc] w (MkRes (singleM s c) w) := by
 have hl := hf.len
 rcases hru with h | h | h | h
 · exact single2_any' s c v1 v2 v3 v4 v5 vc B w h hs hc hB (by omega) hf.sz hf.zc
 · exact single3_any s c v1 v2 v3 v4 v5 vc B w h hs hc hB (by omega) hf.sz hf.zc
 · exact single6_any s c v1 v2 v3 v4 v5 vc B w h hs hc hB (by omega)
 exact single7_any s c v1 v2 v3 v4 v5 vc B w h hs hc hB (by omega)
theorem RdS.more {w : World} {B B' : Nat} {s : Sp} {v1 v2 v3 v4 v5 : Value} (h : RdS w B s v1 v2 v3 v4 v5) (hB : B ≤ B') : RdS w B' s v1 v2 v3 v4 v5 :=
 ⟨h.parents.more hB, h.lits.more hB, h.right.more hB, h.pos.more hB, h.clause.more hB⟩
theorem len_two {α : Type} {l : List α} (h : l.length = 2) : ∃ a b, l = [a, b] := by
 match l, h with
 | [a, b], _ => exact ⟨a, b, rfl⟩
theorem any_range {α : Type} (l : List α) (p : α → Bool) (d : α) : ((List.range l.length).any fun k => p (l[k]?.getD d)) = l.any p := by
 rw [Bool.eq_iff_iff, List.any_eq_true, List.any_eq_true]
 constructor
 · rintro ⟨k, hk, h⟩
   have hk := List.mem_range.1 hk
   rw [List.getElem?_eq_getElem hk] at h
   exact ⟨_, List.getElem_mem hk, h⟩
 rintro ⟨x, hx, h⟩
 obtain ⟨k, hk, rfl⟩ := List.mem_iff_getElem.1 hx
 exact ⟨k, List.mem_range.2 hk, by rw [List.getElem?_eq_getElem hk]; exact h⟩
theorem makes_any (inp : List Cl) (ps : List Sp) (s : Sp) (vi vp v1 v2 v3 v4 v5 : Value) (B : Nat) (w : World) (hi : Rd w B (encCls inp) vi) (hp : Rd w B (encSps ps) vp) (hs : RdS w B s v1 v2 v3 v4 v5) (hB : B ≤ w.heap.size)
 (hpar : ∀ k ∈ s.parents, 0 ≤ k ∧ k < ps.length) (hrng : ∀ q ∈ ps, ∀ x ∈ q.clause, rngL x = true) (hzs : ∀ q ∈ ps, sizeC q.clause ≤ 10000000000) (hpl : s.parents.length ≤ 2000000) :
 Calls Try.prog 36 #[.agg #[vi, vp], .agg #[.int .i64 s.rule, v1, v2, v3, v4, v5]] w (MkRes (makesM inp ps s) w) := by
 obtain ⟨Ai, ci, rfl, hi1, hi2, hi3⟩ := Rd.row_form (show Rd w B (.sl 1 (inp.map fun c => [encCl c])) vi from hi)
 obtain ⟨Ap, cp, rfl, hp1, hp2, hp3⟩ := Rd.row_form (show Rd w B (.sl 6 (ps.map encSp)) vp from hp)
 have Hi := Lh hi
 have Hp := Lh hp
 have Hs := Lh hs
 clear hi hp hs
 by_cases hr1 : s.rule = 1
 · have hq1 : (s.rule == 1) = true := by simp [hr1]
   have hrm : makesM inp ps s = if numbersB s 0 1 0 false = false ∨ litI s 0 < 0 ∨ (inp.length : Int) ≤ litI s 0 then none else inp[li s 0]? := by unfold makesM; rw [if_pos hr1]
   clear hpar hrng hzs hpl hr1
   cases hnum : numbersB s 0 1 0 false with
   | false =>
     have hno : makesM inp ps s = none := by rw [hrm, if_pos (.inl hnum)]
     have Hno := Lh hno
     have HNum := Lh hnum
     obtain ⟨i, a2, o2, c2, -⟩ : ∃ (i : Int) (a2 o2 c2 : Nat), True := ⟨0, 0, 0, 0, trivial⟩
     have V2 := Lh (rfl : v2 = v2)
     clear hno hnum hrm
     go_enter Try.func36, Try.ntmps36
     go_upto_region 1 with fail
     obtain ⟨hx1, hx2, hB2, hz2⟩ := boxes2 w (.cells #[.slice Ai inp.length ci, .slice Ap ps.length cp] 66) (.cells #[.int .i64 s.rule, v1, v2, v3, v4, v5] 45)
     have hx1 : Box2 w.heap.size 66 (.slice Ai inp.length ci) (.slice Ap ps.length cp) _ := hx1
     have hx2 : Box6 (w.heap.size + 1) 45 (.int .i64 s.rule) v1 v2 v3 v4 v5 _ := hx2
     generalize (w.alloc (.cells #[.slice Ai inp.length ci, .slice Ap ps.length cp] 66)).alloc (.cells #[.int .i64 s.rule, v1, v2, v3, v4, v5] 45) = w2 at hx1 hx2 hB2 hz2 ⊢
     have HX1 := Lh hx1
     have HX2 := Lh hx2
     have HB2 := Lh hB2
     obtain ⟨y0, y1, -⟩ := hx1.cells
     obtain ⟨x0, x1, x2, x3, x4, x5⟩ := hx2.cells
     clear hx1 hx2 hB2
     go_upto_region 2 with fail
     refine rg 20 (fun _ w' => Below w2.heap.size w2 w') ?_
     intro wd hwd hbd
     refine ⟨?_, fun hS => ?_⟩
     · exact hwd ▸ hbd
     refine tk 0 (.agg #[.int .i64 s.rule, v1, v2, v3, v4, v5]) hS ?_ fun hS => ?_
     · intro w' L hn hw
       have o3 := (HX2.out.low hw).cells
       simp [execOp, go_sem, o3.1, o3.2.1, o3.2.2.1, o3.2.2.2.1, o3.2.2.2.2.1, o3.2.2.2.2.2]
     refine so 1 ?_
     have hbd2 : Below w2.heap.size w2 wd := hwd ▸ hbd
     have hzd : wd.heap.size = w2.heap.size := by rw [hwd]
     have hlow : Below w.heap.size w wd := HB2.out.trans (hbd2.mono (by omega))
     have hc1 := numbers_any s 0 1 0 false v1 v2 v3 v4 v5 B wd (Hs.out.low hlow hB)
     rw [HNum.out] at hc1
     refine wp_enter ?_ hc1 ?_
     · simp [execOp, resolve, invoke, go_sem]
     rintro e w6 ⟨rfl, hb6⟩
     refine ⟨_, rfl, ?_⟩
     refine gS ?_ fun hS => ?_
     · exact hS.trans (hb6.mono hS.size)
     refine ta 2 (.bool (!false)) hS fun hS => ?_
     refine ta 3 (.bool (!false)) hS fun hS => ?_
     refine sk 4 hS fun hS => ?_
     refine sk 5 hS fun hS => ?_
     refine sk 6 hS fun hS => ?_
     refine sk 7 hS fun hS => ?_
     refine sk 8 hS fun hS => ?_
     refine ta 9 (.bool true) hS fun hS => ?_
     refine ta 10 (.bool true) hS fun hS => ?_
     refine sk 11 hS fun hS => ?_
     refine sk 12 hS fun hS => ?_
     refine sk 13 hS fun hS => ?_
     refine sk 14 hS fun hS => ?_
     refine sk 15 hS fun hS => ?_
     refine sk 16 hS fun hS => ?_
     refine sk 17 hS fun hS => ?_
     refine sk 18 hS fun hS => ?_
     refine ta 19 (.bool true) hS fun hS => ?_
     refine dn ?_
     have hlow6 : Below w.heap.size w w6 := HB2.out.trans (hS.mono (by omega))
     have Hlow6 := Lh hlow6
     have HS6 := Lh hS
     clear hS hb6 hlow hlow6 hzd hbd2 hwd hbd
     go_wp2_with fail
     refine bodyPost_ret (v := .tuple #[.slice none 0 0, .bool false]) (by simp [results, Try.results36, go_sem]) rfl ?_
     rw [Hno.out]
     exact ⟨Hlow6.out, _, rfl, fun c h => by cases h⟩
   | true =>
     have hl1 : s.lits.length = 1 := by unfold numbersB at hnum; simp at hnum; exact hnum.1.1.2
     obtain ⟨i, hi⟩ := List.length_eq_one_iff.1 hl1
     obtain ⟨-, -, A2, c2, -, -, -, -, -, -, -, hv2, -⟩ := Hs.out.forms
     have hli := Hs.out.lits
     rw [hv2] at hli
     rw [hl1] at hv2 hli
     unfold encIs at hli
     obtain ⟨a2, o2, hA2, ha2, ho2⟩ := Rd.leaf_at (f := fun n => .int .i64 n) hli (k := 0) (by omega)
     rw [hA2] at hv2
     simp only [hi, List.getElem_cons_zero, Nat.add_zero] at ho2
     have hli0 : litI s 0 = i := by unfold litI; rw [hi]; rfl
     have hlk0 : li s 0 = i.toNat := by unfold li; rw [hi]; rfl
     rw [hli0, hlk0] at hrm
     have HNum := Lh hnum
     have V2 := Lh hv2
     have Oi := Lh ho2
     have Hrm := Lh hrm
     clear hnum hl1 hi hv2 hli hA2 ho2 hrm hli0 hlk0
     by_cases h8 : i < 0
     · have hno : makesM inp ps s = none := by rw [Hrm.out, if_pos (.inr (.inl h8))]
       have Hno := Lh hno
       clear hno
       go_enter Try.func36, Try.ntmps36
       go_upto_region 1 with fail
       obtain ⟨hx1, hx2, hB2, hz2⟩ := boxes2 w (.cells #[.slice Ai inp.length ci, .slice Ap ps.length cp] 66) (.cells #[.int .i64 s.rule, v1, v2, v3, v4, v5] 45)
       have hx1 : Box2 w.heap.size 66 (.slice Ai inp.length ci) (.slice Ap ps.length cp) _ := hx1
       have hx2 : Box6 (w.heap.size + 1) 45 (.int .i64 s.rule) v1 v2 v3 v4 v5 _ := hx2
       generalize (w.alloc (.cells #[.slice Ai inp.length ci, .slice Ap ps.length cp] 66)).alloc (.cells #[.int .i64 s.rule, v1, v2, v3, v4, v5] 45) = w2 at hx1 hx2 hB2 hz2 ⊢
       have HX1 := Lh hx1
       have HX2 := Lh hx2
       have HB2 := Lh hB2
       obtain ⟨y0, y1, -⟩ := hx1.cells
       obtain ⟨x0, x1, x2, x3, x4, x5⟩ := hx2.cells
       clear hx1 hx2 hB2
       have ha2w : a2 < w2.heap.size := by omega
       have Oi2 := Lh ((HB2.out.cell (p := ⟨a2, o2, none⟩) (show a2 < w.heap.size by omega)).trans Oi.out)
       go_upto_region 2 with fail
       refine rg 20 (fun _ w' => Below w2.heap.size w2 w') ?_
       intro wd hwd hbd
       refine ⟨?_, fun hS => ?_⟩
       · exact hwd ▸ hbd
       refine tk 0 (.agg #[.int .i64 s.rule, v1, v2, v3, v4, v5]) hS ?_ fun hS => ?_
       · intro w' L hn hw
         have o3 := (HX2.out.low hw).cells
         simp [execOp, go_sem, o3.1, o3.2.1, o3.2.2.1, o3.2.2.2.1, o3.2.2.2.2.1, o3.2.2.2.2.2]
       refine so 1 ?_
       have hbd2 : Below w2.heap.size w2 wd := hwd ▸ hbd
       have hzd : wd.heap.size = w2.heap.size := by rw [hwd]
       have hlow : Below w.heap.size w wd := HB2.out.trans (hbd2.mono (by omega))
       have hc1 := numbers_any s 0 1 0 false v1 v2 v3 v4 v5 B wd (Hs.out.low hlow hB)
       rw [HNum.out] at hc1
       refine wp_enter ?_ hc1 ?_
       · simp [execOp, resolve, invoke, go_sem]
       rintro e w6 ⟨rfl, hb6⟩
       refine ⟨_, rfl, ?_⟩
       refine gS ?_ fun hS => ?_
       · exact hS.trans (hb6.mono hS.size)
       refine ta 2 (.bool (!true)) hS fun hS => ?_
       refine ta 3 (.bool (!true)) hS fun hS => ?_
       refine ta 4 (.pointer (some ⟨w.heap.size + 1, 2, none⟩)) hS fun hS => ?_
       refine tk 5 (.slice (some ⟨a2, o2, none⟩) 1 c2) hS ?_ fun hS => ?_
       · intro w' L hn hw
         have o3 := (HX2.out.low hw).cells
         simp [execOp, go_sem, o3.2.2.1, V2.out]
       refine ta 6 (.pointer (some ⟨a2, o2, none⟩)) hS fun hS => ?_
       refine tk 7 (.int .i64 i) hS ?_ fun hS => ?_
       · intro w' L hn hw
         (have oi := (hw.cell (p := ⟨a2, o2, none⟩) ha2w).trans Oi2.out)
         simp [execOp, go_sem, oi]
       refine tk 8 (.bool true) hS ?_ fun hS => ?_
       · intros; simp [execOp, go_sem, h8]
       refine ta 9 (.bool true) hS fun hS => ?_
       refine ta 10 (.bool true) hS fun hS => ?_
       refine sk 11 hS fun hS => ?_
       refine sk 12 hS fun hS => ?_
       refine sk 13 hS fun hS => ?_
       refine sk 14 hS fun hS => ?_
       refine sk 15 hS fun hS => ?_
       refine sk 16 hS fun hS => ?_
       refine sk 17 hS fun hS => ?_
       refine sk 18 hS fun hS => ?_
       refine ta 19 (.bool true) hS fun hS => ?_
       refine dn ?_
       have hlow6 : Below w.heap.size w w6 := HB2.out.trans (hS.mono (by omega))
       have Hlow6 := Lh hlow6
       have HS6 := Lh hS
       clear hS hb6 hlow hlow6 hzd hbd2 hwd hbd
       go_wp2_with fail
       refine bodyPost_ret (v := .tuple #[.slice none 0 0, .bool false]) (by simp [results, Try.results36, go_sem]) rfl ?_
       rw [Hno.out]
       exact ⟨Hlow6.out, _, rfl, fun c h => by cases h⟩
     by_cases h17 : (inp.length : Int) ≤ i
     · have hno : makesM inp ps s = none := by rw [Hrm.out, if_pos (.inr (.inr h17))]
       have Hno := Lh hno
       clear hno
       go_enter Try.func36, Try.ntmps36
       go_upto_region 1 with fail
       obtain ⟨hx1, hx2, hB2, hz2⟩ := boxes2 w (.cells #[.slice Ai inp.length ci, .slice Ap ps.length cp] 66) (.cells #[.int .i64 s.rule, v1, v2, v3, v4, v5] 45)
       have hx1 : Box2 w.heap.size 66 (.slice Ai inp.length ci) (.slice Ap ps.length cp) _ := hx1
       have hx2 : Box6 (w.heap.size + 1) 45 (.int .i64 s.rule) v1 v2 v3 v4 v5 _ := hx2
       generalize (w.alloc (.cells #[.slice Ai inp.length ci, .slice Ap ps.length cp] 66)).alloc (.cells #[.int .i64 s.rule, v1, v2, v3, v4, v5] 45) = w2 at hx1 hx2 hB2 hz2 ⊢
       have HX1 := Lh hx1
       have HX2 := Lh hx2
       have HB2 := Lh hB2
       obtain ⟨y0, y1, -⟩ := hx1.cells
       obtain ⟨x0, x1, x2, x3, x4, x5⟩ := hx2.cells
       clear hx1 hx2 hB2
       have ha2w : a2 < w2.heap.size := by omega
       have Oi2 := Lh ((HB2.out.cell (p := ⟨a2, o2, none⟩) (show a2 < w.heap.size by omega)).trans Oi.out)
       go_upto_region 2 with fail
       refine rg 20 (fun _ w' => Below w2.heap.size w2 w') ?_
       intro wd hwd hbd
       refine ⟨?_, fun hS => ?_⟩
       · exact hwd ▸ hbd
       refine tk 0 (.agg #[.int .i64 s.rule, v1, v2, v3, v4, v5]) hS ?_ fun hS => ?_
       · intro w' L hn hw
         have o3 := (HX2.out.low hw).cells
         simp [execOp, go_sem, o3.1, o3.2.1, o3.2.2.1, o3.2.2.2.1, o3.2.2.2.2.1, o3.2.2.2.2.2]
       refine so 1 ?_
       have hbd2 : Below w2.heap.size w2 wd := hwd ▸ hbd
       have hzd : wd.heap.size = w2.heap.size := by rw [hwd]
       have hlow : Below w.heap.size w wd := HB2.out.trans (hbd2.mono (by omega))
       have hc1 := numbers_any s 0 1 0 false v1 v2 v3 v4 v5 B wd (Hs.out.low hlow hB)
       rw [HNum.out] at hc1
       refine wp_enter ?_ hc1 ?_
       · simp [execOp, resolve, invoke, go_sem]
       rintro e w6 ⟨rfl, hb6⟩
       refine ⟨_, rfl, ?_⟩
       refine gS ?_ fun hS => ?_
       · exact hS.trans (hb6.mono hS.size)
       refine ta 2 (.bool (!true)) hS fun hS => ?_
       refine ta 3 (.bool (!true)) hS fun hS => ?_
       refine ta 4 (.pointer (some ⟨w.heap.size + 1, 2, none⟩)) hS fun hS => ?_
       refine tk 5 (.slice (some ⟨a2, o2, none⟩) 1 c2) hS ?_ fun hS => ?_
       · intro w' L hn hw
         have o3 := (HX2.out.low hw).cells
         simp [execOp, go_sem, o3.2.2.1, V2.out]
       refine ta 6 (.pointer (some ⟨a2, o2, none⟩)) hS fun hS => ?_
       refine tk 7 (.int .i64 i) hS ?_ fun hS => ?_
       · intro w' L hn hw
         (have oi := (hw.cell (p := ⟨a2, o2, none⟩) ha2w).trans Oi2.out)
         simp [execOp, go_sem, oi]
       refine tk 8 (.bool false) hS ?_ fun hS => ?_
       · intros; simp [execOp, go_sem, h8]
       refine ta 9 (.bool false) hS fun hS => ?_
       refine ta 10 (.bool false) hS fun hS => ?_
       refine ta 11 (.pointer (some ⟨w.heap.size + 1, 2, none⟩)) hS fun hS => ?_
       refine tk 12 (.slice (some ⟨a2, o2, none⟩) 1 c2) hS ?_ fun hS => ?_
       · intro w' L hn hw
         have o3 := (HX2.out.low hw).cells
         simp [execOp, go_sem, o3.2.2.1, V2.out]
       refine ta 13 (.pointer (some ⟨a2, o2, none⟩)) hS fun hS => ?_
       refine tk 14 (.int .i64 i) hS ?_ fun hS => ?_
       · intro w' L hn hw
         (have oi := (hw.cell (p := ⟨a2, o2, none⟩) ha2w).trans Oi2.out)
         simp [execOp, go_sem, oi]
       refine ta 15 (.pointer (some ⟨w.heap.size, 0, none⟩)) hS fun hS => ?_
       refine tk 16 (.slice Ai inp.length ci) hS ?_ fun hS => ?_
       · intro w' L hn hw
         have m2 := (HX1.out.low hw).cells
         simp [execOp, go_sem, m2.1]
       refine ta 17 (.int .i64 (inp.length : Nat)) hS fun hS => ?_
       refine tk 18 (.bool true) hS ?_ fun hS => ?_
       · intros; simp [execOp, go_sem, h17]
       refine ta 19 (.bool true) hS fun hS => ?_
       refine dn ?_
       have hlow6 : Below w.heap.size w w6 := HB2.out.trans (hS.mono (by omega))
       have Hlow6 := Lh hlow6
       have HS6 := Lh hS
       clear hS hb6 hlow hlow6 hzd hbd2 hwd hbd
       go_wp2_with fail
       refine bodyPost_ret (v := .tuple #[.slice none 0 0, .bool false]) (by simp [results, Try.results36, go_sem]) rfl ?_
       rw [Hno.out]
       exact ⟨Hlow6.out, _, rfl, fun c h => by cases h⟩
     obtain ⟨iN, rfl⟩ : ∃ n : Nat, i = (n : Int) := ⟨i.toNat, by omega⟩
     have hiN : iN < inp.length := by omega
     have hyes : makesM inp ps s = some inp[iN] := by rw [Hrm.out, if_neg (by rintro (h | h | h); exact absurd (HNum.out.symm.trans h) (by decide); omega; omega), Int.toNat_natCast, List.getElem?_eq_getElem hiN]
     have Hyes := Lh hyes
     obtain ⟨bi, ob, A6, c6, hAi, hbi, d0, hcc⟩ := Hi.out.cl_at hiN
     have HAi := Lh hAi
     clear hyes hAi
     go_enter Try.func36, Try.ntmps36
     go_upto_region 1 with fail
     obtain ⟨hx1, hx2, hB2, hz2⟩ := boxes2 w (.cells #[.slice Ai inp.length ci, .slice Ap ps.length cp] 66) (.cells #[.int .i64 s.rule, v1, v2, v3, v4, v5] 45)
     have hx1 : Box2 w.heap.size 66 (.slice Ai inp.length ci) (.slice Ap ps.length cp) _ := hx1
     have hx2 : Box6 (w.heap.size + 1) 45 (.int .i64 s.rule) v1 v2 v3 v4 v5 _ := hx2
     generalize (w.alloc (.cells #[.slice Ai inp.length ci, .slice Ap ps.length cp] 66)).alloc (.cells #[.int .i64 s.rule, v1, v2, v3, v4, v5] 45) = w2 at hx1 hx2 hB2 hz2 ⊢
     have HX1 := Lh hx1
     have HX2 := Lh hx2
     have HB2 := Lh hB2
     obtain ⟨y0, y1, -⟩ := hx1.cells
     obtain ⟨x0, x1, x2, x3, x4, x5⟩ := hx2.cells
     clear hx1 hx2 hB2
     have ha2w : a2 < w2.heap.size := by omega
     have Oi2 := Lh ((HB2.out.cell (p := ⟨a2, o2, none⟩) (show a2 < w.heap.size by omega)).trans Oi.out)
     have D0 := Lh ((HB2.out.cell (p := ⟨bi, ob + iN, none⟩) (show bi < w.heap.size by omega)).trans d0)
     have Hcc := Lh hcc
     clear d0 hcc
     go_upto_region 2 with fail
     refine rg 20 (fun _ w' => Below w2.heap.size w2 w') ?_
     intro wd hwd hbd
     refine ⟨?_, fun hS => ?_⟩
     · exact hwd ▸ hbd
     refine tk 0 (.agg #[.int .i64 s.rule, v1, v2, v3, v4, v5]) hS ?_ fun hS => ?_
     · intro w' L hn hw
       have o3 := (HX2.out.low hw).cells
       simp [execOp, go_sem, o3.1, o3.2.1, o3.2.2.1, o3.2.2.2.1, o3.2.2.2.2.1, o3.2.2.2.2.2]
     refine so 1 ?_
     have hbd2 : Below w2.heap.size w2 wd := hwd ▸ hbd
     have hzd : wd.heap.size = w2.heap.size := by rw [hwd]
     have hlow : Below w.heap.size w wd := HB2.out.trans (hbd2.mono (by omega))
     have hc1 := numbers_any s 0 1 0 false v1 v2 v3 v4 v5 B wd (Hs.out.low hlow hB)
     rw [HNum.out] at hc1
     refine wp_enter ?_ hc1 ?_
     · simp [execOp, resolve, invoke, go_sem]
     rintro e w6 ⟨rfl, hb6⟩
     refine ⟨_, rfl, ?_⟩
     refine gS ?_ fun hS => ?_
     · exact hS.trans (hb6.mono hS.size)
     refine ta 2 (.bool (!true)) hS fun hS => ?_
     refine ta 3 (.bool (!true)) hS fun hS => ?_
     refine ta 4 (.pointer (some ⟨w.heap.size + 1, 2, none⟩)) hS fun hS => ?_
     refine tk 5 (.slice (some ⟨a2, o2, none⟩) 1 c2) hS ?_ fun hS => ?_
     · intro w' L hn hw
       have o3 := (HX2.out.low hw).cells
       simp [execOp, go_sem, o3.2.2.1, V2.out]
     refine ta 6 (.pointer (some ⟨a2, o2, none⟩)) hS fun hS => ?_
     refine tk 7 (.int .i64 (iN : Nat)) hS ?_ fun hS => ?_
     · intro w' L hn hw
       (have oi := (hw.cell (p := ⟨a2, o2, none⟩) ha2w).trans Oi2.out)
       simp [execOp, go_sem, oi]
     refine tk 8 (.bool false) hS ?_ fun hS => ?_
     · intros; simp [execOp, go_sem, h8]
     refine ta 9 (.bool false) hS fun hS => ?_
     refine ta 10 (.bool false) hS fun hS => ?_
     refine ta 11 (.pointer (some ⟨w.heap.size + 1, 2, none⟩)) hS fun hS => ?_
     refine tk 12 (.slice (some ⟨a2, o2, none⟩) 1 c2) hS ?_ fun hS => ?_
     · intro w' L hn hw
       have o3 := (HX2.out.low hw).cells
       simp [execOp, go_sem, o3.2.2.1, V2.out]
     refine ta 13 (.pointer (some ⟨a2, o2, none⟩)) hS fun hS => ?_
     refine tk 14 (.int .i64 (iN : Nat)) hS ?_ fun hS => ?_
     · intro w' L hn hw
       (have oi := (hw.cell (p := ⟨a2, o2, none⟩) ha2w).trans Oi2.out)
       simp [execOp, go_sem, oi]
     refine ta 15 (.pointer (some ⟨w.heap.size, 0, none⟩)) hS fun hS => ?_
     refine tk 16 (.slice Ai inp.length ci) hS ?_ fun hS => ?_
     · intro w' L hn hw
       have m2 := (HX1.out.low hw).cells
       simp [execOp, go_sem, m2.1]
     refine ta 17 (.int .i64 (inp.length : Nat)) hS fun hS => ?_
     refine tk 18 (.bool false) hS ?_ fun hS => ?_
     · intros; simp [execOp, go_sem, h17]
     refine ta 19 (.bool false) hS fun hS => ?_
     refine dn ?_
     have hlow6 : Below w.heap.size w w6 := HB2.out.trans (hS.mono (by omega))
     have Hlow6 := Lh hlow6
     have HS6 := Lh hS
     clear hS hb6 hlow hlow6 hzd hbd2 hwd hbd
     have hz6 := HS6.out.size
     go_upto_region 4 with fail
     refine rg 10 (fun _ w' => Below w6.heap.size w6 w') ?_
     intro wd hwd hbd
     refine ⟨?_, fun hS => ?_⟩
     · exact hwd ▸ hbd
     refine ta 0 (.pointer (some ⟨w.heap.size, 0, none⟩)) hS fun hS => ?_
     refine tk 1 (.slice (some ⟨bi, ob, none⟩) inp.length ci) hS ?_ fun hS => ?_
     · intro w' L hn hw
       have hww : Below w2.heap.size w2 w' := HS6.out.trans (hw.mono (by omega))
       have m2 := (HX1.out.low hww).cells
       simp [execOp, go_sem, m2.1, HAi.out]
     refine ta 2 (.pointer (some ⟨w.heap.size + 1, 2, none⟩)) hS fun hS => ?_
     refine tk 3 (.slice (some ⟨a2, o2, none⟩) 1 c2) hS ?_ fun hS => ?_
     · intro w' L hn hw
       have hww : Below w2.heap.size w2 w' := HS6.out.trans (hw.mono (by omega))
       have o3 := (HX2.out.low hww).cells
       simp [execOp, go_sem, o3.2.2.1, V2.out]
     refine ta 4 (.pointer (some ⟨a2, o2, none⟩)) hS fun hS => ?_
     refine tk 5 (.int .i64 (iN : Nat)) hS ?_ fun hS => ?_
     · intro w' L hn hw
       have hww : Below w2.heap.size w2 w' := HS6.out.trans (hw.mono (by omega))
       have oi := (hww.cell (p := ⟨a2, o2, none⟩) ha2w).trans Oi2.out
       simp [execOp, go_sem, oi]
     refine tk 6 (.pointer (some ⟨bi, ob + iN, none⟩)) hS ?_ fun hS => ?_
     · intros; simp [execOp, go_sem, hiN]
     refine tk 7 (.slice A6 inp[iN].length c6) hS ?_ fun hS => ?_
     · intro w' L hn hw
       have hww : Below w2.heap.size w2 w' := HS6.out.trans (hw.mono (by omega))
       have od := (hww.cell (p := ⟨bi, ob + iN, none⟩) (show bi < w2.heap.size by omega)).trans D0.out
       simp [execOp, go_sem, od]
     refine ta 8 (.slice A6 inp[iN].length c6) hS fun hS => ?_
     refine ta 9 (.bool true) hS fun hS => ?_
     refine dn ?_
     have hlow7 : Below w.heap.size w _ := Hlow6.out.trans (hS.mono (by have := Hlow6.out.size; omega))
     go_wp2_with fail
     refine bodyPost_ret (v := .tuple #[.slice A6 inp[iN].length c6, .bool true]) (by simp [results, Try.results36, go_sem]) rfl ?_
     rw [Hyes.out]
     refine ⟨hlow7, _, rfl, fun c h => ?_⟩
     obtain rfl := Option.some.inj h
     exact (Hcc.out.low hlow7 hB).more (by have := hlow7.size; omega)
 have hq1 : (s.rule == 1) = false := by simp [hr1]
 go_enter Try.func36, Try.ntmps36
 go_upto_region 1 with fail
 obtain ⟨hx1, hx2, hB2, hz2⟩ := boxes2 w (.cells #[.slice Ai inp.length ci, .slice Ap ps.length cp] 66) (.cells #[.int .i64 s.rule, v1, v2, v3, v4, v5] 45)
 have hx1 : Box2 w.heap.size 66 (.slice Ai inp.length ci) (.slice Ap ps.length cp) _ := hx1
 have hx2 : Box6 (w.heap.size + 1) 45 (.int .i64 s.rule) v1 v2 v3 v4 v5 _ := hx2
 generalize (w.alloc (.cells #[.slice Ai inp.length ci, .slice Ap ps.length cp] 66)).alloc (.cells #[.int .i64 s.rule, v1, v2, v3, v4, v5] 45) = w2 at hx1 hx2 hB2 hz2 ⊢
 have HX1 := Lh hx1
 have HX2 := Lh hx2
 have HB2 := Lh hB2
 obtain ⟨y0, y1, -⟩ := hx1.cells
 obtain ⟨x0, x1, x2, x3, x4, x5⟩ := hx2.cells
 clear hx1 hx2 hB2
 obtain ⟨A1, n1, A2, n2, A3, n3, A4, n4, A5, n5, rfl, rfl, rfl, rfl, rfl, hn1, -⟩ := Hs.out.forms
 go_upto_region 7 with fail
 clear x0 x1 x2 x3 x4 x5 y0 y1
 go_loopw [6, 43] (fun u i wr => ∃ k : Nat, k ≤ s.parents.length ∧ i = .int .i64 k ∧ OwnR wr (fun b => b < B) w2.heap.size 38 1 u (((parC ps s).take k).map fun c => [encCl c]) ∧ Below w2.heap.size w2 wr) (fun _ i _ => s.parents.length - (intOf i).toNat)
 case atStart => exact ⟨0, Nat.zero_le _, rfl, OwnR.nil _ _ _ _ _, Below.refl _ _⟩
 obtain ⟨k, hk, rfl, hown, hup⟩ := hrel
 have hzr := hup.size
 have hur := hown.lt
 have Hown := Lh hown
 have Hup := Lh hup
 clear hown hup
 by_cases hlt : k < s.parents.length
 · have hbw : Below w.heap.size w wr := HB2.out.trans (Hup.out.mono (by omega))
   obtain ⟨q, hq⟩ : ∃ q, s.parents[k] = q := ⟨_, rfl⟩
   obtain ⟨hq0, hq1⟩ := hpar q (by rw [← hq]; exact List.getElem_mem hlt)
   obtain ⟨n, rfl⟩ : ∃ n : Nat, q = (n : Int) := ⟨q.toNat, by omega⟩
   have hnp : n < ps.length := by omega
   have hpr := (Hs.out.low hbw hB).parents
   unfold encIs at hpr
   obtain ⟨pb, po, rfl, hpb, p0⟩ := Rd.leaf_at (f := fun n => .int .i64 n) hpr hlt
   simp only [hq] at p0
   obtain ⟨sb, sO, u1, u2, u3, u4, u5, rfl, hsb, -, -, -, -, -, p5, hsn⟩ := (Hp.out.low hbw hB).sp_at hnp
   obtain ⟨-, -, -, -, -, -, -, -, A6, c6, -, -, -, -, rfl, -⟩ := hsn.forms
   have hcl := hsn.clause
   have Hcl := Lh hcl
   have Hbw := Lh hbw
   have Hq := Lh hq
   obtain ⟨y0, y1, -⟩ := (HX1.out.low Hup.out).cells
   have hnn : ¬ ((ps.length : Int) ≤ (n : Int)) := by omega
   clear hpr hsn hcl hbw hq
   have hlk : ((((parC ps s).take k).map fun c => [encCl c])).length = k := by unfold parC; simp; omega
   have Hlk := Lh hlk
   clear hlk
   go_wp2_with (
    at_builtin
    go_loud (refine wpList_pushR _ rfl (.tmp 47) (.tmp 54) _ rfl clsT (M := fun b => b < B) (base := w2.heap.size) (v := u6) (trs := ((parC ps s).take k).map fun c => [encCl c]) rfl (by exact Hown.out.low (below_box wr _)) (g := wr.heap.size) rfl (heap_alloc_new wr _) rfl (by simp [Value.oneCell']) (by rw [Hlk.out]; omega) (by rw [Hlk.out]; unfold maxLen; omega) (by simp; omega) [encCl ps[n].clause] rfl ?_ ?_)
    · intro j h h'
      have hj2 : j < 1 := h'
      rcases (by omega : j = 0) with rfl
      exact ((Hcl.out.low (below_box wr _) (by have := Hbw.out.size; omega)).rdP (by simp; omega)).more fun b hb _ => ⟨.inl hb, fun e => by have := (hur _ e).1; omega⟩
    intro u7 w7 hown7 hup7 _
    have Hown7 := Lh hown7
    have Hup7 := Lh hup7
    clear hown7 hup7)
   go_roundw
   case rel =>
    have hsn : ((parC ps s).take (k + 1)).map (fun c => [encCl c]) = ((parC ps s).take k).map (fun c => [encCl c]) ++ [[encCl ps[n].clause]] := by
     have hkp : k < (parC ps s).length := by unfold parC; rw [List.length_map]; exact hlt
     rw [List.take_succ_eq_append_getElem hkp, List.map_append]
     have : (parC ps s)[k] = ps[n].clause := by
      have hg : (parC ps s)[k]? = some ps[n].clause := by
       unfold parC
       simp only [List.getElem?_map, List.getElem?_eq_getElem hlt, Hq.out, Option.map_some, Int.toNat_natCast, List.getElem?_eq_getElem hnp, Option.getD_some]
      rw [List.getElem?_eq_getElem hkp] at hg
      exact Option.some.inj hg
     rw [this]; rfl
    exact ⟨k + 1, by omega, by go_num, by rw [hsn]; exact Hown7.out, Hup.out.trans ((below_box wr _).mono hzr |>.trans (Hup7.out.toLow (by simp; omega) (fun j e => (hur _ e).1)))⟩
   case measure => simp [intOf]; omega
 obtain rfl : k = s.parents.length := by omega
 have hln : (parC ps s).length = s.parents.length := by unfold parC; rw [List.length_map]
 have hown := Hown.out
 rw [List.take_of_length_le (Nat.le_of_eq hln)] at hown
 obtain ⟨l, hl⟩ : ∃ l, parC ps s = l := ⟨_, rfl⟩
 have hmk : makesM inp ps s = if l.any (fun c => !fairB c) = true then none else if s.rule = 2 ∨ s.rule = 3 ∨ s.rule = 6 ∨ s.rule = 7 then makesOne s l else if s.rule = 4 ∨ s.rule = 5 then makesTwo s l else if s.rule = 8 then makesCut s l else none := by
  unfold makesM
  rw [if_neg hr1, hl]
  rfl
 have hmem : ∀ x ∈ l, ∃ q ∈ ps, x = q.clause := fun x hx => by
  rw [← hl] at hx
  unfold parC at hx
  obtain ⟨n, hn, rfl⟩ := List.mem_map.1 hx
  obtain ⟨h0, h1⟩ := hpar n hn
  have h2 : n.toNat < ps.length := by omega
  rw [List.getElem?_eq_getElem h2]
  exact ⟨_, List.getElem_mem h2, rfl⟩
 rw [hl] at hown hln
 have hrd := (hown.rd (by rw [List.length_map, hln]; omega)).rd'
 obtain ⟨Au, cu, hu, -, -⟩ := hown.form
 rw [List.length_map] at hu
 subst hu
 have hlow : Below w.heap.size w wr := HB2.out.trans (Hup.out.mono (by omega))
 have hcf := makesFair_any l _ wr.heap.size wr hrd (fun x hx => by obtain ⟨q, hq, rfl⟩ := hmem x hx; exact hzs q hq) (Nat.le_refl _)
 have hany : ((List.range l.length).any fun k => !fairB (l[k]?.getD [])) = l.any fun c => !fairB c := any_range l (fun c => !fairB c) []
 rw [hany] at hcf
 have hfr : l.any (fun c => !fairB c) = false → ∀ x ∈ l, FairC x := fun h x hx => by
  obtain ⟨q, hq, rfl⟩ := hmem x hx
  refine fair_facts (hrng q hq) ?_
  have := List.any_eq_false.1 h _ hx
  simpa using this
 obtain ⟨y0, y1, y2, y3, y4, y5⟩ := (HX2.out.low Hup.out).cells
 have Hln := Lh hln
 have Hrd := Lh hrd
 have Hlow := Lh hlow
 have Hcf := Lh hcf
 have Hfr := Lh hfr
 have Hmk := Lh hmk
 clear hown hl hmk hmem hln hrd hlow hcf hany hfr hlt hrng hpar
 obtain ⟨ba, hba⟩ : ∃ b, l.any (fun c => !fairB c) = b := ⟨_, rfl⟩
 rw [hba] at Hcf Hmk Hfr
 clear hba
 cases ba with
 | true =>
   go_wp2_with (
    go_at_call 47
    refine Hcf.out.mono ?_
    rintro e w4 ⟨rfl, hb4⟩
    have Hb4 := Lh hb4
    clear hb4)
   have hno : makesM inp ps s = none := by rw [Hmk.out]; rfl
   refine bodyPost_ret (v := .tuple #[.slice none 0 0, .bool false]) (by simp [results, Try.results36, go_sem]) rfl ?_
   rw [hno]
   exact ⟨Hlow.out.trans (Hb4.out.mono (by have := Hlow.out.size; omega)), _, rfl, fun c h => by cases h⟩
 | false =>
   have hmk := Hmk.out
   rw [if_neg (by decide)] at hmk
   have hfr := Hfr.out rfl
   have Hmk := Lh hmk
   have Hfr := Lh hfr
   clear hmk hfr
   by_cases hru : s.rule = 2 ∨ s.rule = 3 ∨ s.rule = 6 ∨ s.rule = 7
   · have hmk := Hmk.out
     rw [if_pos hru] at hmk
     have Hmk := Lh hmk
     have Hru := Lh hru
     clear hmk
     rcases hru with h | h | h | h
     all_goals
      first | (have t2 : (s.rule == 2) = true := (by rw [h]; rfl)) | (have t2 : (s.rule == 2) = false := (by rw [h]; rfl))
      first | (have t3 : (s.rule == 3) = true := (by rw [h]; rfl)) | (have t3 : (s.rule == 3) = false := (by rw [h]; rfl))
      first | (have t4 : (s.rule == 4) = true := (by rw [h]; rfl)) | (have t4 : (s.rule == 4) = false := (by rw [h]; rfl))
      first | (have t5 : (s.rule == 5) = true := (by rw [h]; rfl)) | (have t5 : (s.rule == 5) = false := (by rw [h]; rfl))
      first | (have t6 : (s.rule == 6) = true := (by rw [h]; rfl)) | (have t6 : (s.rule == 6) = false := (by rw [h]; rfl))
      first | (have t7 : (s.rule == 7) = true := (by rw [h]; rfl)) | (have t7 : (s.rule == 7) = false := (by rw [h]; rfl))
      first | (have t8 : (s.rule == 8) = true := (by rw [h]; rfl)) | (have t8 : (s.rule == 8) = false := (by rw [h]; rfl))
      by_cases hl1 : l.length = 1
      · obtain ⟨c, rfl⟩ := List.length_eq_one_iff.1 hl1
        have hmk := Hmk.out
        have hmk : makesM inp ps s = singleM s c := hmk
        have Hmk := Lh hmk
        have hfc := Hfr.out c (List.mem_singleton.2 rfl)
        have hsa := fun (vc : Value) (w' : World) (hb : Below w.heap.size w w') (hc : Rd w' wr.heap.size (encCl c) vc) (hz : wr.heap.size ≤ w'.heap.size) => single_any s c _ _ _ _ _ vc wr.heap.size w' Hru.out ((Hs.out.low hb hB).more (by have := Hlow.out.size; omega)) hc hz hfc
        have Hsa := Lh hsa
        obtain ⟨bl, ol, A6, c6, rfl, hbl, d0, hcc⟩ := Hrd.out.cl_at (k := 0) (by simp)
        simp only [List.getElem_cons_zero, Nat.add_zero] at d0 hcc
        have hzw := Hlow.out.size
        have D0 := Lh d0
        have Hcc := Lh hcc
        clear hmk hfc hsa d0 hcc hl1 h
        go_upto_region 19 with (go_at_call 47
                                refine Hcf.out.mono ?_
                                rintro e w4 ⟨rfl, hb4⟩
                                have y0 := (hb4.cell (p := ⟨w.heap.size + 1, 0, none⟩) (show w.heap.size + 1 < wr.heap.size by omega)).trans y0
                                have Hb4 := Lh hb4
                                clear hb4)
        obtain ⟨r, hr⟩ : ∃ r, singleM s c = r := ⟨_, rfl⟩
        have Hr := Lh hr
        have hz4 := Hb4.out.size
        clear hr y0 y1 y2 y3 y4 y5
        refine rg 9 (fun _ w' => Below w4.heap.size w4 w') ?_
        intro wd hwd hbd
        refine ⟨?_, fun hS => ?_⟩
        · exact hwd ▸ hbd
        refine tk 0 (.agg #[.int .i64 s.rule, .slice A1 s.parents.length n1, .slice A2 s.lits.length n2, .slice A3 s.right.length n3, .slice A4 s.pos.length n4, .slice A5 s.clause.length n5]) hS ?_ fun hS => ?_
        · intro w' L hn hw
          have hww : Below wr.heap.size wr w' := Hb4.out.trans (hw.mono (by omega))
          have o3 := ((HX2.out.low Hup.out).low hww).cells
          simp [execOp, go_sem, o3.1, o3.2.1, o3.2.2.1, o3.2.2.2.1, o3.2.2.2.2.1, o3.2.2.2.2.2]
        refine ta 1 (.slice (some ⟨bl, ol, none⟩) 1 cu) hS fun hS => ?_
        refine ta 2 (.pointer (some ⟨bl, ol, none⟩)) hS fun hS => ?_
        refine tk 3 (.slice A6 c.length c6) hS ?_ fun hS => ?_
        · intro w' L hn hw
          have hww : Below wr.heap.size wr w' := Hb4.out.trans (hw.mono (by omega))
          have o6 := (hww.cell (p := ⟨bl, ol, none⟩) (show bl < wr.heap.size by omega)).trans D0.out
          simp [execOp, go_sem, o6]
        refine so 4 ?_
        have hbd4 : Below w4.heap.size w4 wd := hwd ▸ hbd
        have hzd : wd.heap.size = w4.heap.size := by rw [hwd]
        have hc1 := Hsa.out _ wd (Hlow.out.trans ((Hb4.out.trans (hbd4.mono (by omega))).mono (by omega))) (Hcc.out.low (Hb4.out.trans (hbd4.mono (by omega))) (Nat.le_refl _)) (by omega)
        rw [Hr.out] at hc1
        refine wp_enter ?_ hc1 ?_
        · simp [execOp, resolve, invoke, go_sem]
        rintro e w6 ⟨hb6, v6, rfl, hr6⟩
        refine ⟨_, rfl, ?_⟩
        refine gS ?_ fun hS => ?_
        · exact hS.trans (hb6.mono hS.size)
        refine ta 5 (v6) hS fun hS => ?_
        refine ta 6 (.bool r.isSome) hS fun hS => ?_
        refine ta 7 (v6) hS fun hS => ?_
        refine ta 8 (.bool r.isSome) hS fun hS => ?_
        refine dn ?_
        have Hlow6 := Lh (Hlow.out.trans ((Hb4.out.trans (hS.mono (by omega))).mono hzw))
        have Hr6 := Lh hr6
        clear hS hwd hbd hb6 hc1 hbd4 hzd hr6
        go_wp2_with fail
        refine bodyPost_ret (v := .tuple #[v6, .bool r.isSome]) (by simp [results, Try.results36, go_sem]) rfl ?_
        rw [Hmk.out, Hr.out]
        exact ⟨Hlow6.out, v6, rfl, Hr6.out⟩
      have hno : makesM inp ps s = none := by
       rw [Hmk.out]
       match l, hl1 with
       | [], _ => rfl
       | [_], h => exact absurd rfl h
       | _ :: _ :: _, _ => rfl
      have hl2 : ¬ ((l.length : Int) = 1) := by omega
      clear h
      go_wp2_with (
       go_at_call 47
       refine Hcf.out.mono ?_
       rintro e w4 ⟨rfl, hb4⟩
       have y0 := (hb4.cell (p := ⟨w.heap.size + 1, 0, none⟩) (show w.heap.size + 1 < wr.heap.size by omega)).trans y0
       have Hb4 := Lh hb4
       clear hb4)
      refine bodyPost_ret (v := .tuple #[.slice none 0 0, .bool false]) (by simp [results, Try.results36, go_sem]) rfl ?_
      rw [hno]
      exact ⟨Hlow.out.trans (Hb4.out.mono (by have := Hlow.out.size; omega)), _, rfl, fun c h => by cases h⟩
   have hmk := Hmk.out
   rw [if_neg hru] at hmk
   by_cases hru2 : s.rule = 4 ∨ s.rule = 5
   · rw [if_pos hru2] at hmk
     have Hmk := Lh hmk
     clear hmk hru
     rcases hru2 with h | h
     all_goals
      first | (have t2 : (s.rule == 2) = true := (by rw [h]; rfl)) | (have t2 : (s.rule == 2) = false := (by rw [h]; rfl))
      first | (have t3 : (s.rule == 3) = true := (by rw [h]; rfl)) | (have t3 : (s.rule == 3) = false := (by rw [h]; rfl))
      first | (have t4 : (s.rule == 4) = true := (by rw [h]; rfl)) | (have t4 : (s.rule == 4) = false := (by rw [h]; rfl))
      first | (have t5 : (s.rule == 5) = true := (by rw [h]; rfl)) | (have t5 : (s.rule == 5) = false := (by rw [h]; rfl))
      first | (have t6 : (s.rule == 6) = true := (by rw [h]; rfl)) | (have t6 : (s.rule == 6) = false := (by rw [h]; rfl))
      first | (have t7 : (s.rule == 7) = true := (by rw [h]; rfl)) | (have t7 : (s.rule == 7) = false := (by rw [h]; rfl))
      first | (have t8 : (s.rule == 8) = true := (by rw [h]; rfl)) | (have t8 : (s.rule == 8) = false := (by rw [h]; rfl))
      by_cases hl1 : l.length = 2
      · obtain ⟨c, d, rfl⟩ := len_two hl1
        have hmk := Hmk.out
        have hmk : makesM inp ps s = intoM s c d := hmk
        have Hmk := Lh hmk
        have hfc := Hfr.out c (by simp)
        have hfd := Hfr.out d (by simp)
        have hlc := hfc.len
        have hld := hfd.len
        have hsa := fun (vc vd : Value) (w' : World) (hb : Below w.heap.size w w') (hc : Rd w' wr.heap.size (encCl c) vc) (hd : Rd w' wr.heap.size (encCl d) vd) (hz : wr.heap.size ≤ w'.heap.size) => into_any s c d _ _ _ _ _ vc vd wr.heap.size w' ((Hs.out.low hb hB).more (by have := Hlow.out.size; omega)) hc hd hz (by omega) (by omega) hfc.sz hfd.szm hfc.zc hfd.zc hfd.zm hfd.low hfc.pat
        have Hsa := Lh hsa
        have hrd1 := Hrd.out
        obtain ⟨bl, ol, A6, c6, rfl, hbl, d0, hcc⟩ := hrd1.cl_at (k := 0) (by simp)
        obtain ⟨bl', ol', A7, c7, hbe, -, d1, hdd⟩ := hrd1.cl_at (k := 1) (by simp)
        cases hbe
        simp only [List.getElem_cons_zero, List.getElem_cons_succ, Nat.add_zero] at d0 hcc d1 hdd
        have hzw := Hlow.out.size
        have D0 := Lh d0
        have Hcc := Lh hcc
        have D1 := Lh d1
        have Hdd := Lh hdd
        clear hmk hfc hfd hlc hld hsa d0 hcc d1 hdd hl1 hrd1 h
        go_upto_region 23 with (go_at_call 47
                                refine Hcf.out.mono ?_
                                rintro e w4 ⟨rfl, hb4⟩
                                have y0 := (hb4.cell (p := ⟨w.heap.size + 1, 0, none⟩) (show w.heap.size + 1 < wr.heap.size by omega)).trans y0
                                have Hb4 := Lh hb4
                                clear hb4)
        obtain ⟨r, hr⟩ : ∃ r, intoM s c d = r := ⟨_, rfl⟩
        have Hr := Lh hr
        have hz4 := Hb4.out.size
        clear hr y0 y1 y2 y3 y4 y5
        refine rg 12 (fun _ w' => Below w4.heap.size w4 w') ?_
        intro wd hwd hbd
        refine ⟨?_, fun hS => ?_⟩
        · exact hwd ▸ hbd
        refine tk 0 (.agg #[.int .i64 s.rule, .slice A1 s.parents.length n1, .slice A2 s.lits.length n2, .slice A3 s.right.length n3, .slice A4 s.pos.length n4, .slice A5 s.clause.length n5]) hS ?_ fun hS => ?_
        · intro w' L hn hw
          have hww : Below wr.heap.size wr w' := Hb4.out.trans (hw.mono (by omega))
          have o3 := ((HX2.out.low Hup.out).low hww).cells
          simp [execOp, go_sem, o3.1, o3.2.1, o3.2.2.1, o3.2.2.2.1, o3.2.2.2.2.1, o3.2.2.2.2.2]
        refine ta 1 (.slice (some ⟨bl, ol, none⟩) 2 cu) hS fun hS => ?_
        refine ta 2 (.pointer (some ⟨bl, ol, none⟩)) hS fun hS => ?_
        refine tk 3 (.slice A6 c.length c6) hS ?_ fun hS => ?_
        · intro w' L hn hw
          have hww : Below wr.heap.size wr w' := Hb4.out.trans (hw.mono (by omega))
          have o6 := (hww.cell (p := ⟨bl, ol, none⟩) (show bl < wr.heap.size by omega)).trans D0.out
          simp [execOp, go_sem, o6]
        refine ta 4 (.slice (some ⟨bl, ol, none⟩) 2 cu) hS fun hS => ?_
        refine ta 5 (.pointer (some ⟨bl, ol + 1, none⟩)) hS fun hS => ?_
        refine tk 6 (.slice A7 d.length c7) hS ?_ fun hS => ?_
        · intro w' L hn hw
          have hww : Below wr.heap.size wr w' := Hb4.out.trans (hw.mono (by omega))
          have o7 := (hww.cell (p := ⟨bl, ol + 1, none⟩) (show bl < wr.heap.size by omega)).trans D1.out
          simp [execOp, go_sem, o7]
        refine so 7 ?_
        have hbd4 : Below w4.heap.size w4 wd := hwd ▸ hbd
        have hzd : wd.heap.size = w4.heap.size := by rw [hwd]
        have hc1 := Hsa.out _ _ wd (Hlow.out.trans ((Hb4.out.trans (hbd4.mono (by omega))).mono (by omega))) (Hcc.out.low (Hb4.out.trans (hbd4.mono (by omega))) (Nat.le_refl _)) (Hdd.out.low (Hb4.out.trans (hbd4.mono (by omega))) (Nat.le_refl _)) (by omega)
        rw [Hr.out] at hc1
        refine wp_enter ?_ hc1 ?_
        · simp [execOp, resolve, invoke, go_sem]
        rintro e w6 ⟨hb6, v6, rfl, hr6⟩
        refine ⟨_, rfl, ?_⟩
        refine gS ?_ fun hS => ?_
        · exact hS.trans (hb6.mono hS.size)
        refine ta 8 (v6) hS fun hS => ?_
        refine ta 9 (.bool r.isSome) hS fun hS => ?_
        refine ta 10 (v6) hS fun hS => ?_
        refine ta 11 (.bool r.isSome) hS fun hS => ?_
        refine dn ?_
        have Hlow6 := Lh (Hlow.out.trans ((Hb4.out.trans (hS.mono (by omega))).mono hzw))
        have Hr6 := Lh hr6
        clear hS hwd hbd hb6 hc1 hbd4 hzd hr6
        go_wp2_with fail
        refine bodyPost_ret (v := .tuple #[v6, .bool r.isSome]) (by simp [results, Try.results36, go_sem]) rfl ?_
        rw [Hmk.out, Hr.out]
        exact ⟨Hlow6.out, v6, rfl, Hr6.out⟩
      have hno : makesM inp ps s = none := by
       rw [Hmk.out]
       match l, hl1 with
       | [], _ => rfl
       | [_], _ => rfl
       | [_, _], h => exact absurd rfl h
       | _ :: _ :: _ :: _, _ => rfl
      have hl2 : ¬ ((l.length : Int) = 2) := by omega
      clear h
      go_wp2_with (
       go_at_call 47
       refine Hcf.out.mono ?_
       rintro e w4 ⟨rfl, hb4⟩
       have y0 := (hb4.cell (p := ⟨w.heap.size + 1, 0, none⟩) (show w.heap.size + 1 < wr.heap.size by omega)).trans y0
       have Hb4 := Lh hb4
       clear hb4)
      refine bodyPost_ret (v := .tuple #[.slice none 0 0, .bool false]) (by simp [results, Try.results36, go_sem]) rfl ?_
      rw [hno]
      exact ⟨Hlow.out.trans (Hb4.out.mono (by have := Hlow.out.size; omega)), _, rfl, fun c h => by cases h⟩
   rw [if_neg hru2] at hmk
   by_cases hru3 : s.rule = 8
   · rw [if_pos hru3] at hmk
     have Hmk := Lh hmk
     have h := hru3
     clear hmk hru hru2 hru3
     have t2 : (s.rule == 2) = false := by rw [h]; rfl
     have t3 : (s.rule == 3) = false := by rw [h]; rfl
     have t4 : (s.rule == 4) = false := by rw [h]; rfl
     have t5 : (s.rule == 5) = false := by rw [h]; rfl
     have t6 : (s.rule == 6) = false := by rw [h]; rfl
     have t7 : (s.rule == 7) = false := by rw [h]; rfl
     have t8 : (s.rule == 8) = true := by rw [h]; rfl
     by_cases hl1 : l.length = 2
     · obtain ⟨c, d, rfl⟩ := len_two hl1
       have hmk := Hmk.out
       have hmk : makesM inp ps s = cutM s c d := hmk
       have Hmk := Lh hmk
       have hfc := Hfr.out c (by simp)
       have hfd := Hfr.out d (by simp)
       have hlc := hfc.len
       have hld := hfd.len
       have hsa := fun (vc vd : Value) (w' : World) (hb : Below w.heap.size w w') (hc : Rd w' wr.heap.size (encCl c) vc) (hd : Rd w' wr.heap.size (encCl d) vd) (hz : wr.heap.size ≤ w'.heap.size) => cut_any s c d _ _ _ _ _ vc vd wr.heap.size w' ((Hs.out.low hb hB).more (by have := Hlow.out.size; omega)) hc hd hz hfc.pat (by omega) (by omega)
       have Hsa := Lh hsa
       have hrd1 := Hrd.out
       obtain ⟨bl, ol, A6, c6, rfl, hbl, d0, hcc⟩ := hrd1.cl_at (k := 0) (by simp)
       obtain ⟨bl', ol', A7, c7, hbe, -, d1, hdd⟩ := hrd1.cl_at (k := 1) (by simp)
       cases hbe
       simp only [List.getElem_cons_zero, List.getElem_cons_succ, Nat.add_zero] at d0 hcc d1 hdd
       have hzw := Hlow.out.size
       have D0 := Lh d0
       have Hcc := Lh hcc
       have D1 := Lh d1
       have Hdd := Lh hdd
       clear hmk hfc hfd hlc hld hsa d0 hcc d1 hdd hl1 hrd1 h
       go_upto_region 26 with (go_at_call 47
                               refine Hcf.out.mono ?_
                               rintro e w4 ⟨rfl, hb4⟩
                               have y0 := (hb4.cell (p := ⟨w.heap.size + 1, 0, none⟩) (show w.heap.size + 1 < wr.heap.size by omega)).trans y0
                               have Hb4 := Lh hb4
                               clear hb4)
       obtain ⟨r, hr⟩ : ∃ r, cutM s c d = r := ⟨_, rfl⟩
       have Hr := Lh hr
       have hz4 := Hb4.out.size
       clear hr y0 y1 y2 y3 y4 y5
       refine rg 12 (fun _ w' => Below w4.heap.size w4 w') ?_
       intro wd hwd hbd
       refine ⟨?_, fun hS => ?_⟩
       · exact hwd ▸ hbd
       refine tk 0 (.agg #[.int .i64 s.rule, .slice A1 s.parents.length n1, .slice A2 s.lits.length n2, .slice A3 s.right.length n3, .slice A4 s.pos.length n4, .slice A5 s.clause.length n5]) hS ?_ fun hS => ?_
       · intro w' L hn hw
         have hww : Below wr.heap.size wr w' := Hb4.out.trans (hw.mono (by omega))
         have o3 := ((HX2.out.low Hup.out).low hww).cells
         simp [execOp, go_sem, o3.1, o3.2.1, o3.2.2.1, o3.2.2.2.1, o3.2.2.2.2.1, o3.2.2.2.2.2]
       refine ta 1 (.slice (some ⟨bl, ol, none⟩) 2 cu) hS fun hS => ?_
       refine ta 2 (.pointer (some ⟨bl, ol, none⟩)) hS fun hS => ?_
       refine tk 3 (.slice A6 c.length c6) hS ?_ fun hS => ?_
       · intro w' L hn hw
         have hww : Below wr.heap.size wr w' := Hb4.out.trans (hw.mono (by omega))
         have o6 := (hww.cell (p := ⟨bl, ol, none⟩) (show bl < wr.heap.size by omega)).trans D0.out
         simp [execOp, go_sem, o6]
       refine ta 4 (.slice (some ⟨bl, ol, none⟩) 2 cu) hS fun hS => ?_
       refine ta 5 (.pointer (some ⟨bl, ol + 1, none⟩)) hS fun hS => ?_
       refine tk 6 (.slice A7 d.length c7) hS ?_ fun hS => ?_
       · intro w' L hn hw
         have hww : Below wr.heap.size wr w' := Hb4.out.trans (hw.mono (by omega))
         have o7 := (hww.cell (p := ⟨bl, ol + 1, none⟩) (show bl < wr.heap.size by omega)).trans D1.out
         simp [execOp, go_sem, o7]
       refine so 7 ?_
       have hbd4 : Below w4.heap.size w4 wd := hwd ▸ hbd
       have hzd : wd.heap.size = w4.heap.size := by rw [hwd]
       have hc1 := Hsa.out _ _ wd (Hlow.out.trans ((Hb4.out.trans (hbd4.mono (by omega))).mono (by omega))) (Hcc.out.low (Hb4.out.trans (hbd4.mono (by omega))) (Nat.le_refl _)) (Hdd.out.low (Hb4.out.trans (hbd4.mono (by omega))) (Nat.le_refl _)) (by omega)
       rw [Hr.out] at hc1
       refine wp_enter ?_ hc1 ?_
       · simp [execOp, resolve, invoke, go_sem]
       rintro e w6 ⟨hb6, v6, rfl, hr6⟩
       refine ⟨_, rfl, ?_⟩
       refine gS ?_ fun hS => ?_
       · exact hS.trans (hb6.mono hS.size)
       refine ta 8 (v6) hS fun hS => ?_
       refine ta 9 (.bool r.isSome) hS fun hS => ?_
       refine ta 10 (v6) hS fun hS => ?_
       refine ta 11 (.bool r.isSome) hS fun hS => ?_
       refine dn ?_
       have Hlow6 := Lh (Hlow.out.trans ((Hb4.out.trans (hS.mono (by omega))).mono hzw))
       have Hr6 := Lh hr6
       clear hS hwd hbd hb6 hc1 hbd4 hzd hr6
       go_wp2_with fail
       refine bodyPost_ret (v := .tuple #[v6, .bool r.isSome]) (by simp [results, Try.results36, go_sem]) rfl ?_
       rw [Hmk.out, Hr.out]
       exact ⟨Hlow6.out, v6, rfl, Hr6.out⟩
     have hno : makesM inp ps s = none := by
      rw [Hmk.out]
      match l, hl1 with
      | [], _ => rfl
      | [_], _ => rfl
      | [_, _], h => exact absurd rfl h
      | _ :: _ :: _ :: _, _ => rfl
     have hl2 : ¬ ((l.length : Int) = 2) := by omega
     clear h
     go_wp2_with (
      go_at_call 47
      refine Hcf.out.mono ?_
      rintro e w4 ⟨rfl, hb4⟩
      have y0 := (hb4.cell (p := ⟨w.heap.size + 1, 0, none⟩) (show w.heap.size + 1 < wr.heap.size by omega)).trans y0
      have Hb4 := Lh hb4
      clear hb4)
     refine bodyPost_ret (v := .tuple #[.slice none 0 0, .bool false]) (by simp [results, Try.results36, go_sem]) rfl ?_
     rw [hno]
     exact ⟨Hlow.out.trans (Hb4.out.mono (by have := Hlow.out.size; omega)), _, rfl, fun c h => by cases h⟩
   rw [if_neg hru3] at hmk
   have hno := hmk
   have t2 : (s.rule == 2) = false := by simp; omega
   have t3 : (s.rule == 3) = false := by simp; omega
   have t4 : (s.rule == 4) = false := by simp; omega
   have t5 : (s.rule == 5) = false := by simp; omega
   have t6 : (s.rule == 6) = false := by simp; omega
   have t7 : (s.rule == 7) = false := by simp; omega
   have t8 : (s.rule == 8) = false := by simp; omega
   clear hmk hru hru2 hru3
   go_wp2_with (
    go_at_call 47
    refine Hcf.out.mono ?_
    rintro e w4 ⟨rfl, hb4⟩
    have y0 := (hb4.cell (p := ⟨w.heap.size + 1, 0, none⟩) (show w.heap.size + 1 < wr.heap.size by omega)).trans y0
    have Hb4 := Lh hb4
    clear hb4)
   refine bodyPost_ret (v := .tuple #[.slice none 0 0, .bool false]) (by simp [results, Try.results36, go_sem]) rfl ?_
   rw [hno]
   exact ⟨Hlow.out.trans (Hb4.out.mono (by have := Hlow.out.size; omega)), _, rfl, fun c h => by cases h⟩
theorem stpIndex_any (bx : Array Value) (p : Nat → Bool) (xs : List Int) (v : Value) (B : Nat) (w : World) (hr : Rd w B (encIs xs) v) (hB : B ≤ w.heap.size)
 (hclo : ∀ k (hk : k < xs.length) w1 ev, Below w.heap.size w w1 → IntV w1 B xs[k] ev → Calls Try.prog 35 (#[ev] ++ bx) w1 (BoolRes (p k) w1)) :
 Calls Try.prog 45 #[v, .func (.func 35) #[] bx] w (IdxRes p xs.length w) := by
 obtain ⟨A, c, rfl, hc, hn, hm⟩ := Rd.row_form hr
 have H3 := Lh hr
 have Hclo := Lh hclo
 clear hr hclo
 go_enter Try.func45, Try.ntmps45
 go_wp2_with fail
 go_loopw [8] (fun i wr => ∃ k : Nat, k ≤ xs.length ∧ i = .int .i64 k ∧ (∀ j, j < k → p j = false) ∧ Below w.heap.size w wr) (fun i _ => xs.length - (intOf i).toNat)
 case atStart => exact ⟨0, Nat.zero_le _, rfl, fun j hj => by omega, Below.refl _ _⟩
 obtain ⟨k, hk, rfl, hall, hbel⟩ := hrel
 have Hall := Lh hall
 have Hbel := Lh hbel
 have hzr := hbel.size
 clear hall hbel
 by_cases hlt : k < xs.length
 ·
  obtain ⟨ab, off, rfl, hb, k0⟩ := Rd.leaf_at (f := fun n : Int => Value.int .i64 n) (H3.out.low Hbel.out hB) hlt
  have hcl := Hclo.out k hlt wr (.int .i64 xs[k]) Hbel.out rfl
  have Hcl := Lh hcl
  clear hcl
  cases hp : p k with
  | true =>
    rw [hp] at Hcl
    go_wp2_with (
     go_at_call 35
     refine Hcl.out.mono ?_
     rintro e w1 ⟨rfl, hb1⟩)
    go_ret
    exact ⟨k, rfl, Hbel.out.trans (hb1.mono hzr), .inr ⟨k, hlt, rfl, any_some hlt hp⟩⟩
  | false =>
    rw [hp] at Hcl
    have Hp := Lh hp
    clear hp
    go_wp2_with (
     go_at_call 35
     refine Hcl.out.mono ?_
     rintro e w1 ⟨rfl, hb1⟩)
    go_roundw
    case rel =>
     refine ⟨k + 1, by omega, by go_num, fun j hj => ?_, Hbel.out.trans (hb1.mono hzr)⟩
     by_cases hjk : j = k
     · subst hjk; exact Hp.out
     exact Hall.out j (by omega)
    case measure => simp [intOf]; omega
 · go_wp2_with fail
   go_ret
   exact ⟨-1, rfl, Hbel.out, .inl ⟨rfl, any_none fun j hj => Hall.out j (by omega)⟩⟩
theorem stpHas_any (bx : Array Value) (p : Nat → Bool) (xs : List Int) (v : Value) (B : Nat) (w : World) (hr : Rd w B (encIs xs) v) (hB : B ≤ w.heap.size)
 (hclo : ∀ k (hk : k < xs.length) w1 ev, Below w.heap.size w w1 → IntV w1 B xs[k] ev → Calls Try.prog 35 (#[ev] ++ bx) w1 (BoolRes (p k) w1)) :
 Calls Try.prog 34 #[v, .func (.func 35) #[] bx] w (BoolRes ((List.range xs.length).any p) w) := by
 have Hclo := Lh hclo
 have H3 := Lh hr
 clear hclo hr
 go_enter Try.func34, Try.ntmps34
 go_wp2_with (
  go_at_call 45
  refine (stpIndex_any bx p xs v B w H3.out hB Hclo.out).mono ?_
  rintro e w1 ⟨i, rfl, hb1, hc1⟩)
 rcases hc1 with ⟨rfl, h⟩ | ⟨k, hk, rfl, h⟩
 · go_ret
   exact ⟨by rw [h]; rfl, hb1⟩
 go_ret
 refine ⟨?_, hb1⟩
 rw [h]
 show Ending.returned (.bool (decide ((0 : Int) ≤ (k : Int)))) = _
 rw [decide_eq_true (by omega)]
theorem stpHas (xs : List Int) (m : Int) (b : Nat) (v : Value) (B : Nat) (w : World) (hr : Rd w B (encIs xs) v) (hB : B ≤ w.heap.size) (hb : Box1 b 3 (.int .i64 m) w) :
 Calls Try.prog 34 #[v, .func (.func 35) #[] #[.pointer (some ⟨b, 0, none⟩)]] w (BoolRes (xs.any fun k => decide (k < 0 ∨ m ≤ k)) w) := by
 have h := stpHas_any #[.pointer (some ⟨b, 0, none⟩)] (fun k => decide (xs[k]?.getD 0 < 0 ∨ m ≤ xs[k]?.getD 0)) xs v B w hr hB fun k hk w1 ev hb1 hv => by
  rw [show ev = .int .i64 xs[k] from hv]
  have := step1_any xs[k] m b w1 ((hb1.cell (p := ⟨b, 0, none⟩) hb.lt).trans hb.cell)
  rw [List.getElem?_eq_getElem hk]
  exact this
 rw [any_range xs (fun k => decide (k < 0 ∨ m ≤ k)) 0] at h
 exact h
structure StepOk (ps : List Sp) : Prop where
 rng : ∀ q ∈ ps, ∀ x ∈ q.clause, rngL x = true
 sz : ∀ q ∈ ps, sizeC q.clause ≤ 10000000000
 par : ∀ q ∈ ps, q.parents.length ≤ 2000000
theorem stepIn_any (inp : List Cl) (ps : List Sp) (n : Nat) (vi vp : Value) (B : Nat) (w : World) (hi : Rd w B (encCls inp) vi) (hp : Rd w B (encSps ps) vp) (hB : B ≤ w.heap.size) (hn : n < ps.length) (hok : StepOk ps) :
 Calls Try.prog 23 #[.agg #[vi, vp], .int .i64 (n : Nat)] w (BoolRes (stepM inp ps n) w) := by
 obtain ⟨Ai, ci, rfl, -, -, -⟩ := Rd.row_form (show Rd w B (.sl 1 (inp.map fun c => [encCl c])) vi from hi)
 obtain ⟨Ap, cp, rfl, -, -, -⟩ := Rd.row_form (show Rd w B (.sl 6 (ps.map encSp)) vp from hp)
 have Hi := Lh hi
 have Hp := Lh hp
 obtain ⟨pb, po, u1, u2, u3, u4, u5, rfl, hpb, p0, p1, p2, p3, p4, p5, hsn⟩ := hp.sp_at hn
 have hst : stepM inp ps n = (fairB ps[n].clause && !(ps[n].parents.any fun k => decide (k < 0 ∨ (n : Int) ≤ k)) && match makesM inp ps ps[n] with | none => false | some c => variantsB c ps[n].clause) := by
  unfold stepM
  rw [decide_eq_true (show (0 : Int) ≤ (n : Int) by omega), decide_eq_true (show (n : Int) < ps.length by omega), Int.toNat_natCast, List.getElem?_eq_getElem hn]
  simp only [Bool.decide_or, Bool.true_and]
  all_goals (cases makesM inp ps ps[n] <;> rfl)
 have hsz := hok.sz ps[n] (List.getElem_mem hn)
 have hpl := hok.par ps[n] (List.getElem_mem hn)
 obtain ⟨s, hs⟩ : ∃ s, ps[n] = s := ⟨_, rfl⟩
 rw [hs] at p0 hsn hst hsz hpl
 obtain ⟨A1, c1, A2, c2, A3, c3, A4, c4, A5, c5, rfl, rfl, rfl, rfl, rfl, -⟩ := hsn.forms
 have Hs := Lh hsn
 have Hst := Lh hst
 have Hsz := Lh hsz
 have hnn : ¬ ((ps.length : Int) ≤ (n : Int)) := by omega
 clear hi hp hsn hst hsz hs
 rw [Hst.out]
 cases hf : fairB s.clause with
 | false =>
   have Hf := Lh hf
   clear hf
   rw [Bool.false_and, Bool.false_and]
   go_enter Try.func23, Try.ntmps23
   go_upto_region 1 with fail
   obtain ⟨hx1, hx2, hB2, hz2⟩ := boxes2 w (.cells #[.slice Ai inp.length ci, .slice (some ⟨pb, po, none⟩) ps.length cp] 66) (.cells #[.int .i64 (n : Nat)] 3)
   have hx1 : Box2 w.heap.size 66 (.slice Ai inp.length ci) (.slice (some ⟨pb, po, none⟩) ps.length cp) _ := hx1
   have hx2 : Box1 (w.heap.size + 1) 3 (.int .i64 (n : Nat)) _ := hx2
   generalize (w.alloc (.cells #[.slice Ai inp.length ci, .slice (some ⟨pb, po, none⟩) ps.length cp] 66)).alloc (.cells #[.int .i64 (n : Nat)] 3) = w2 at hx1 hx2 hB2 hz2 ⊢
   have HX1 := Lh hx1
   have HX2 := Lh hx2
   have HB2 := Lh hB2
   obtain ⟨y0, y1, -⟩ := hx1.cells
   have x0 := hx2.cell
   have q0 := (hB2.cell (p := ⟨pb, po + n * 6, none⟩) (show pb < w.heap.size by omega)).trans p0
   have q1 := (hB2.cell (p := ⟨pb, po + n * 6 + 1, none⟩) (show pb < w.heap.size by omega)).trans p1
   have q2 := (hB2.cell (p := ⟨pb, po + n * 6 + 2, none⟩) (show pb < w.heap.size by omega)).trans p2
   have q3 := (hB2.cell (p := ⟨pb, po + n * 6 + 3, none⟩) (show pb < w.heap.size by omega)).trans p3
   have q4 := (hB2.cell (p := ⟨pb, po + n * 6 + 4, none⟩) (show pb < w.heap.size by omega)).trans p4
   have q5 := (hB2.cell (p := ⟨pb, po + n * 6 + 5, none⟩) (show pb < w.heap.size by omega)).trans p5
   clear hx1 hx2 hB2
   go_upto_region 2 with fail
   have hx3 : Box6 w2.heap.size 45 (.int .i64 s.rule) (.slice A1 s.parents.length c1) (.slice A2 s.lits.length c2) (.slice A3 s.right.length c3) (.slice A4 s.pos.length c4) (.slice A5 s.clause.length c5) (w2.alloc (.cells #[.int .i64 s.rule, .slice A1 s.parents.length c1, .slice A2 s.lits.length c2, .slice A3 s.right.length c3, .slice A4 s.pos.length c4, .slice A5 s.clause.length c5] 45)) := heap_alloc_new w2 _
   have hB3 := below_box w2 (.cells #[.int .i64 s.rule, .slice A1 s.parents.length c1, .slice A2 s.lits.length c2, .slice A3 s.right.length c3, .slice A4 s.pos.length c4, .slice A5 s.clause.length c5] 45)
   have hz3 : (w2.alloc (.cells #[.int .i64 s.rule, .slice A1 s.parents.length c1, .slice A2 s.lits.length c2, .slice A3 s.right.length c3, .slice A4 s.pos.length c4, .slice A5 s.clause.length c5] 45)).heap.size = w2.heap.size + 1 := by simp
   generalize w2.alloc (.cells #[.int .i64 s.rule, .slice A1 s.parents.length c1, .slice A2 s.lits.length c2, .slice A3 s.right.length c3, .slice A4 s.pos.length c4, .slice A5 s.clause.length c5] 45) = w3 at hx3 hB3 hz3 ⊢
   clear q0 q1 q2 q3 q4 q5 x0 y0 y1
   rw [hz2] at hx3
   obtain ⟨x0, x1, x2, x3, x4, x5⟩ := hx3.cells
   have Hz2 := Lh hz2
   have Hz3 := Lh hz3
   clear hz2 hz3
   have hlow3 : Below w.heap.size w w3 := HB2.out.trans (hB3.mono (by have := Hz2.out; omega))
   have hfa := fair_any s.clause _ B w3 Hsz.out (Hs.out.low hlow3 hB).clause (by have := Hz2.out; have := Hz3.out; omega)
   rw [Hf.out] at hfa
   have Hlow3 := Lh hlow3
   have HX3 := Lh hx3
   have HB3 := Lh hB3
   have Hfa := Lh hfa
   clear hlow3 hx3 hB3 hfa
   go_wp2_with (
    skip
    go_at_call 33
    refine Hfa.out.mono ?_
    rintro e w4 ⟨rfl, hb4⟩
    obtain ⟨x0, x1, x2, x3, x4, x5⟩ := (HX3.out.low hb4).cells
    have Hb4 := Lh hb4
    clear hb4
               )
   go_ret
   exact ⟨rfl, Hlow3.out.trans (Hb4.out.mono Hlow3.out.size)⟩
 | true =>
   have Hf := Lh hf
   clear hf
   cases hpa : s.parents.any fun k => decide (k < 0 ∨ (n : Int) ≤ k) with
   | true =>
     have Hpa := Lh hpa
     clear hpa
     rw [show (true && !true) = false from rfl, Bool.false_and]
     go_enter Try.func23, Try.ntmps23
     go_upto_region 1 with fail
     obtain ⟨hx1, hx2, hB2, hz2⟩ := boxes2 w (.cells #[.slice Ai inp.length ci, .slice (some ⟨pb, po, none⟩) ps.length cp] 66) (.cells #[.int .i64 (n : Nat)] 3)
     have hx1 : Box2 w.heap.size 66 (.slice Ai inp.length ci) (.slice (some ⟨pb, po, none⟩) ps.length cp) _ := hx1
     have hx2 : Box1 (w.heap.size + 1) 3 (.int .i64 (n : Nat)) _ := hx2
     generalize (w.alloc (.cells #[.slice Ai inp.length ci, .slice (some ⟨pb, po, none⟩) ps.length cp] 66)).alloc (.cells #[.int .i64 (n : Nat)] 3) = w2 at hx1 hx2 hB2 hz2 ⊢
     have HX1 := Lh hx1
     have HX2 := Lh hx2
     have HB2 := Lh hB2
     obtain ⟨y0, y1, -⟩ := hx1.cells
     have x0 := hx2.cell
     have q0 := (hB2.cell (p := ⟨pb, po + n * 6, none⟩) (show pb < w.heap.size by omega)).trans p0
     have q1 := (hB2.cell (p := ⟨pb, po + n * 6 + 1, none⟩) (show pb < w.heap.size by omega)).trans p1
     have q2 := (hB2.cell (p := ⟨pb, po + n * 6 + 2, none⟩) (show pb < w.heap.size by omega)).trans p2
     have q3 := (hB2.cell (p := ⟨pb, po + n * 6 + 3, none⟩) (show pb < w.heap.size by omega)).trans p3
     have q4 := (hB2.cell (p := ⟨pb, po + n * 6 + 4, none⟩) (show pb < w.heap.size by omega)).trans p4
     have q5 := (hB2.cell (p := ⟨pb, po + n * 6 + 5, none⟩) (show pb < w.heap.size by omega)).trans p5
     clear hx1 hx2 hB2
     go_upto_region 2 with fail
     have hx3 : Box6 w2.heap.size 45 (.int .i64 s.rule) (.slice A1 s.parents.length c1) (.slice A2 s.lits.length c2) (.slice A3 s.right.length c3) (.slice A4 s.pos.length c4) (.slice A5 s.clause.length c5) (w2.alloc (.cells #[.int .i64 s.rule, .slice A1 s.parents.length c1, .slice A2 s.lits.length c2, .slice A3 s.right.length c3, .slice A4 s.pos.length c4, .slice A5 s.clause.length c5] 45)) := heap_alloc_new w2 _
     have hB3 := below_box w2 (.cells #[.int .i64 s.rule, .slice A1 s.parents.length c1, .slice A2 s.lits.length c2, .slice A3 s.right.length c3, .slice A4 s.pos.length c4, .slice A5 s.clause.length c5] 45)
     have hz3 : (w2.alloc (.cells #[.int .i64 s.rule, .slice A1 s.parents.length c1, .slice A2 s.lits.length c2, .slice A3 s.right.length c3, .slice A4 s.pos.length c4, .slice A5 s.clause.length c5] 45)).heap.size = w2.heap.size + 1 := by simp
     generalize w2.alloc (.cells #[.int .i64 s.rule, .slice A1 s.parents.length c1, .slice A2 s.lits.length c2, .slice A3 s.right.length c3, .slice A4 s.pos.length c4, .slice A5 s.clause.length c5] 45) = w3 at hx3 hB3 hz3 ⊢
     clear q0 q1 q2 q3 q4 q5 x0 y0 y1
     rw [hz2] at hx3
     obtain ⟨x0, x1, x2, x3, x4, x5⟩ := hx3.cells
     have Hz2 := Lh hz2
     have Hz3 := Lh hz3
     clear hz2 hz3
     have hlow3 : Below w.heap.size w w3 := HB2.out.trans (hB3.mono (by have := Hz2.out; omega))
     have hfa := fair_any s.clause _ B w3 Hsz.out (Hs.out.low hlow3 hB).clause (by have := Hz2.out; have := Hz3.out; omega)
     rw [Hf.out] at hfa
     have Hlow3 := Lh hlow3
     have HX3 := Lh hx3
     have HB3 := Lh hB3
     have Hfa := Lh hfa
     clear hlow3 hx3 hB3 hfa
     go_wp2_with (
      first
      | (
       skip
       go_at_call 33
       refine Hfa.out.mono ?_
       rintro e w4 ⟨rfl, hb4⟩
       obtain ⟨x0, x1, x2, x3, x4, x5⟩ := (HX3.out.low hb4).cells
       have Hb4 := Lh hb4
       clear hb4
        )
      | (
       skip
       go_at_call 34
       refine (stpHas s.parents n (w.heap.size + 1) _ B _ (Hs.out.low (Hlow3.out.trans (Hb4.out.mono Hlow3.out.size)) hB).parents (by have := Hz2.out; have := Hz3.out; have := Hb4.out.size; omega) ((HX2.out.low HB3.out).low Hb4.out)).mono ?_
       rintro e w5 ⟨rfl, hb5⟩
       rw [Hpa.out]
       obtain ⟨x0, x1, x2, x3, x4, x5⟩ := ((HX3.out.low Hb4.out).low hb5).cells
       obtain ⟨y0, y1, -⟩ := (((HX1.out.low HB3.out).low Hb4.out).low hb5).cells
       have Hb5 := Lh hb5
       clear hb5
        ))
     go_ret
     exact ⟨rfl, (Hlow3.out.trans (Hb4.out.mono Hlow3.out.size)).trans (Hb5.out.mono (by have := Hlow3.out.size; have := Hb4.out.size; omega))⟩
   | false =>
     have hpar : ∀ k ∈ s.parents, 0 ≤ k ∧ k < ps.length := fun k hk => by
      have := List.any_eq_false.1 hpa k hk
      simp only [decide_eq_true_eq] at this
      omega
     have Hpa := Lh hpa
     have hmk := fun (w' : World) (hb : Below w.heap.size w w') => makes_any inp ps s _ _ _ _ _ _ _ B w' (Hi.out.low hb hB) (Hp.out.low hb hB) (Hs.out.low hb hB) (by have := hb.size; omega) hpar hok.rng hok.sz hpl
     have Hmk := Lh hmk
     obtain ⟨r, hr⟩ : ∃ r, makesM inp ps s = r := ⟨_, rfl⟩
     rw [hr] at Hmk ⊢
     clear hpa hpar hmk hr hpl
     go_enter Try.func23, Try.ntmps23
     go_upto_region 1 with fail
     obtain ⟨hx1, hx2, hB2, hz2⟩ := boxes2 w (.cells #[.slice Ai inp.length ci, .slice (some ⟨pb, po, none⟩) ps.length cp] 66) (.cells #[.int .i64 (n : Nat)] 3)
     have hx1 : Box2 w.heap.size 66 (.slice Ai inp.length ci) (.slice (some ⟨pb, po, none⟩) ps.length cp) _ := hx1
     have hx2 : Box1 (w.heap.size + 1) 3 (.int .i64 (n : Nat)) _ := hx2
     generalize (w.alloc (.cells #[.slice Ai inp.length ci, .slice (some ⟨pb, po, none⟩) ps.length cp] 66)).alloc (.cells #[.int .i64 (n : Nat)] 3) = w2 at hx1 hx2 hB2 hz2 ⊢
     have HX1 := Lh hx1
     have HX2 := Lh hx2
     have HB2 := Lh hB2
     obtain ⟨y0, y1, -⟩ := hx1.cells
     have x0 := hx2.cell
     have q0 := (hB2.cell (p := ⟨pb, po + n * 6, none⟩) (show pb < w.heap.size by omega)).trans p0
     have q1 := (hB2.cell (p := ⟨pb, po + n * 6 + 1, none⟩) (show pb < w.heap.size by omega)).trans p1
     have q2 := (hB2.cell (p := ⟨pb, po + n * 6 + 2, none⟩) (show pb < w.heap.size by omega)).trans p2
     have q3 := (hB2.cell (p := ⟨pb, po + n * 6 + 3, none⟩) (show pb < w.heap.size by omega)).trans p3
     have q4 := (hB2.cell (p := ⟨pb, po + n * 6 + 4, none⟩) (show pb < w.heap.size by omega)).trans p4
     have q5 := (hB2.cell (p := ⟨pb, po + n * 6 + 5, none⟩) (show pb < w.heap.size by omega)).trans p5
     clear hx1 hx2 hB2
     go_upto_region 2 with fail
     have hx3 : Box6 w2.heap.size 45 (.int .i64 s.rule) (.slice A1 s.parents.length c1) (.slice A2 s.lits.length c2) (.slice A3 s.right.length c3) (.slice A4 s.pos.length c4) (.slice A5 s.clause.length c5) (w2.alloc (.cells #[.int .i64 s.rule, .slice A1 s.parents.length c1, .slice A2 s.lits.length c2, .slice A3 s.right.length c3, .slice A4 s.pos.length c4, .slice A5 s.clause.length c5] 45)) := heap_alloc_new w2 _
     have hB3 := below_box w2 (.cells #[.int .i64 s.rule, .slice A1 s.parents.length c1, .slice A2 s.lits.length c2, .slice A3 s.right.length c3, .slice A4 s.pos.length c4, .slice A5 s.clause.length c5] 45)
     have hz3 : (w2.alloc (.cells #[.int .i64 s.rule, .slice A1 s.parents.length c1, .slice A2 s.lits.length c2, .slice A3 s.right.length c3, .slice A4 s.pos.length c4, .slice A5 s.clause.length c5] 45)).heap.size = w2.heap.size + 1 := by simp
     generalize w2.alloc (.cells #[.int .i64 s.rule, .slice A1 s.parents.length c1, .slice A2 s.lits.length c2, .slice A3 s.right.length c3, .slice A4 s.pos.length c4, .slice A5 s.clause.length c5] 45) = w3 at hx3 hB3 hz3 ⊢
     clear q0 q1 q2 q3 q4 q5 x0 y0 y1
     rw [hz2] at hx3
     obtain ⟨x0, x1, x2, x3, x4, x5⟩ := hx3.cells
     have Hz2 := Lh hz2
     have Hz3 := Lh hz3
     clear hz2 hz3
     have hlow3 : Below w.heap.size w w3 := HB2.out.trans (hB3.mono (by have := Hz2.out; omega))
     have hfa := fair_any s.clause _ B w3 Hsz.out (Hs.out.low hlow3 hB).clause (by have := Hz2.out; have := Hz3.out; omega)
     rw [Hf.out] at hfa
     have Hlow3 := Lh hlow3
     have HX3 := Lh hx3
     have HB3 := Lh hB3
     have Hfa := Lh hfa
     clear hlow3 hx3 hB3 hfa
     cases r with
     | none =>
       go_wp2_with (
        first
        | (
         skip
         go_at_call 33
         refine Hfa.out.mono ?_
         rintro e w4 ⟨rfl, hb4⟩
         obtain ⟨x0, x1, x2, x3, x4, x5⟩ := (HX3.out.low hb4).cells
         have Hb4 := Lh hb4
         clear hb4
          )
        | (
         skip
         go_at_call 34
         refine (stpHas s.parents n (w.heap.size + 1) _ B _ (Hs.out.low (Hlow3.out.trans (Hb4.out.mono Hlow3.out.size)) hB).parents (by have := Hz2.out; have := Hz3.out; have := Hb4.out.size; omega) ((HX2.out.low HB3.out).low Hb4.out)).mono ?_
         rintro e w5 ⟨rfl, hb5⟩
         rw [Hpa.out]
         obtain ⟨x0, x1, x2, x3, x4, x5⟩ := ((HX3.out.low Hb4.out).low hb5).cells
         obtain ⟨y0, y1, -⟩ := (((HX1.out.low HB3.out).low Hb4.out).low hb5).cells
         have Hb5 := Lh hb5
         clear hb5
          )
        | (
         go_at_call 36
         refine (Hmk.out _ ((Hlow3.out.trans (Hb4.out.mono Hlow3.out.size)).trans (Hb5.out.mono (by have := Hlow3.out.size; have := Hb4.out.size; omega)))).mono ?_
         rintro e w6 ⟨hb6, v6, rfl, hr6⟩
         have Hb6 := Lh hb6
         clear hb6 hr6))
       go_ret
       exact ⟨rfl, ((Hlow3.out.trans (Hb4.out.mono Hlow3.out.size)).trans (Hb5.out.mono (by have := Hlow3.out.size; have := Hb4.out.size; omega))).trans (Hb6.out.mono (by have := Hlow3.out.size; have := Hb4.out.size; have := Hb5.out.size; omega))⟩
     | some c =>
       go_wp2_with (
        first
        | (
         skip
         go_at_call 33
         refine Hfa.out.mono ?_
         rintro e w4 ⟨rfl, hb4⟩
         obtain ⟨x0, x1, x2, x3, x4, x5⟩ := (HX3.out.low hb4).cells
         have Hb4 := Lh hb4
         clear hb4
          )
        | (
         skip
         go_at_call 34
         refine (stpHas s.parents n (w.heap.size + 1) _ B _ (Hs.out.low (Hlow3.out.trans (Hb4.out.mono Hlow3.out.size)) hB).parents (by have := Hz2.out; have := Hz3.out; have := Hb4.out.size; omega) ((HX2.out.low HB3.out).low Hb4.out)).mono ?_
         rintro e w5 ⟨rfl, hb5⟩
         rw [Hpa.out]
         obtain ⟨x0, x1, x2, x3, x4, x5⟩ := ((HX3.out.low Hb4.out).low hb5).cells
         obtain ⟨y0, y1, -⟩ := (((HX1.out.low HB3.out).low Hb4.out).low hb5).cells
         have Hb5 := Lh hb5
         clear hb5
          )
        | (
         go_at_call 36
         refine (Hmk.out _ ((Hlow3.out.trans (Hb4.out.mono Hlow3.out.size)).trans (Hb5.out.mono (by have := Hlow3.out.size; have := Hb4.out.size; omega)))).mono ?_
         rintro e w6 ⟨hb6, v6, rfl, hr6⟩
         have hr6 := hr6 _ rfl
         obtain ⟨A6, c6, rfl, -, -, -⟩ := Rd.cl_form hr6
         obtain ⟨x0, x1, x2, x3, x4, x5⟩ := (((HX3.out.low Hb4.out).low Hb5.out).low hb6).cells
         have Hb6 := Lh hb6
         have Hr6 := Lh hr6
         clear hb6 hr6)
        | (
         go_at_call 37
         refine (variants_any c s.clause _ _ _ _ Hr6.out ((Hs.out.low (((Hlow3.out.trans (Hb4.out.mono Hlow3.out.size)).trans (Hb5.out.mono (by have := Hlow3.out.size; have := Hb4.out.size; omega))).trans (Hb6.out.mono (by have := Hlow3.out.size; have := Hb4.out.size; have := Hb5.out.size; omega))) hB).clause.more (by have := Hlow3.out.size; have := Hb4.out.size; have := Hb5.out.size; have := Hb6.out.size; omega)) (Nat.le_refl _)).mono ?_
         rintro e w7 ⟨rfl, hb7⟩
         have Hb7 := Lh hb7
         clear hb7))
       go_ret
       exact ⟨rfl, (((Hlow3.out.trans (Hb4.out.mono Hlow3.out.size)).trans (Hb5.out.mono (by have := Hlow3.out.size; have := Hb4.out.size; omega))).trans (Hb6.out.mono (by have := Hlow3.out.size; have := Hb4.out.size; have := Hb5.out.size; omega))).trans (Hb7.out.mono (by have := Hlow3.out.size; have := Hb4.out.size; have := Hb5.out.size; have := Hb6.out.size; omega))⟩
theorem step_any (inp : List Cl) (ps : List Sp) (n : Int) (vi vp : Value) (B : Nat) (w : World) (hi : Rd w B (encCls inp) vi) (hp : Rd w B (encSps ps) vp) (hB : B ≤ w.heap.size) (hok : StepOk ps) :
 Calls Try.prog 10 #[vi, vp, .int .i64 n] w (BoolRes (stepM inp ps n) w) := by
 obtain ⟨Ai, ci, rfl, -, -, -⟩ := Rd.row_form (show Rd w B (.sl 1 (inp.map fun c => [encCl c])) vi from hi)
 obtain ⟨Ap, cp, rfl, -, -, -⟩ := Rd.row_form (show Rd w B (.sl 6 (ps.map encSp)) vp from hp)
 have Hi := Lh hi
 have Hp := Lh hp
 have Hok := Lh hok
 clear hi hp hok
 by_cases h0 : 0 ≤ n
 · obtain ⟨k, rfl⟩ : ∃ k : Nat, n = (k : Int) := ⟨n.toNat, by omega⟩
   by_cases h1 : (k : Int) < (ps.length : Int)
   · have hst := stepIn_any inp ps k _ _ B w Hi.out Hp.out hB (by omega) Hok.out
     have Hst := Lh hst
     clear hst
     go_enter Try.func10, Try.ntmps10
     go_wp2_with (
      go_at_call 23
      refine Hst.out.mono ?_
      rintro e w3 ⟨rfl, hb3⟩)
     go_ret
     exact ⟨rfl, hb3⟩
   have hno : stepM inp ps k = false := by unfold stepM; rw [decide_eq_false h1]; simp
   rw [hno]
   clear hno
   go_enter Try.func10, Try.ntmps10
   go_wp2_with fail
   go_ret
   exact ⟨rfl, Below.refl _ _⟩
 have hno : stepM inp ps n = false := by unfold stepM; rw [decide_eq_false h0]; simp
 rw [hno]
 clear hno
 go_enter Try.func10, Try.ntmps10
 go_wp2_with fail
 go_ret
 exact ⟨rfl, Below.refl _ _⟩
end Go.Proofs.Ytiaoabfndnidiaa
namespace Go.Proofs.Ytiaoabfndnidiaa
open Go.RowKit Go.ChangeShapes Go.WideShapes Go.ChangeAt
theorem getD_lt {α : Type} (l : List α) (j : Nat) (d : α) (h : j < l.length) : l[j]? = some (l[j]?.getD d) := by
 rw [List.getElem?_eq_getElem h]; rfl
theorem list_of {α : Type} {Q : Nat → α → Prop} : ∀ {n : Nat}, (∀ i, i < n → ∃ x, Q i x) → ∃ l : List α, l.length = n ∧ ∀ i (hi : i < l.length), Q i l[i]
 | 0, _ => ⟨[], rfl, fun i hi => by simp at hi⟩
 | n + 1, h => by
   obtain ⟨l, hl, hq⟩ := list_of (n := n) fun i hi => h i (by omega)
   obtain ⟨x, hx⟩ := h n (by omega)
   refine ⟨l ++ [x], by simp [hl], fun i hi => ?_⟩
   by_cases h1 : i < l.length
   · rw [List.getElem_append_left h1]; exact hq i h1
   have h2 : i = l.length := by simp at hi; omega
   subst h2
   rw [List.getElem_append_right (Nat.le_refl _)]
   simp only [Nat.sub_self, List.getElem_cons_zero]
   rw [hl]; exact hx
theorem rd_rows {α : Type} {w : World} {B size b off len cap : Nat} {Q : Nat → α → Prop} (e : α → List Tr) (he : ∀ x, (e x).length = size) (hlc : len ≤ cap) (hn : len ≤ 140737488351232) (hm : cap ≤ maxLen) (hb : b < B)
 (h : ∀ i, i < len → ∃ x : α, ∃ us : Nat → Value, (∀ j, j < size → w.cell? ⟨b, off + i * size + j, none⟩ = some (us j)) ∧ (∀ j (h' : j < (e x).length), Rd w B (e x)[j] (us j)) ∧ Q i x) :
 ∃ xs : List α, Rd w B (.sl size (xs.map e)) (.slice (some ⟨b, off, none⟩) len cap) ∧ xs.length = len ∧ ∀ i (hi : i < xs.length), Q i xs[i] := by
 obtain ⟨l, hl, hq⟩ := list_of (α := α × (Nat → Value)) (Q := fun i p => (∀ j, j < size → w.cell? ⟨b, off + i * size + j, none⟩ = some (p.2 j)) ∧ (∀ j (h' : j < (e p.1).length), Rd w B (e p.1)[j] (p.2 j)) ∧ Q i p.1)
  (fun i hi => by obtain ⟨x, us, h⟩ := h i hi; exact ⟨(x, us), h⟩)
 refine ⟨l.map (·.1), ?_, by simp [hl], fun i hi => ?_⟩
 · have hlen : ((l.map (·.1)).map e).length = len := by simp [hl]
   have := Rd.row (w := w) (B := B) size b off cap ((l.map (·.1)).map e) (fun k j => ((l[k]?.map (·.2)).getD (fun _ => undef)) j)
    (by intro r hr; obtain ⟨x, _, rfl⟩ := List.mem_map.1 hr; exact he x) (by omega) (by omega) hm hb
    (fun k j hk hj => by
      have hk' : k < l.length := by omega
      rw [List.getElem?_eq_getElem hk']
      exact (hq k hk').1 j hj)
    (fun k hk j hj => by
      have hk' : k < l.length := by omega
      rw [List.getElem?_eq_getElem hk']
      simp only [List.getElem_map] at hj ⊢
      exact (hq k hk').2.1 j hj)
   rw [hlen] at this
   exact this
 have hi' : i < l.length := by simpa using hi
 rw [List.getElem_map]
 exact (hq i hi').2.2
theorem int_wf {n : Int} (h : (Lit.int .i64 n).wf = true) : -9223372036854775808 ≤ n ∧ n ≤ 9223372036854775807 := by
 simp [Lit.wf, IntKind.min, IntKind.max, IntKind.bits, IntKind.signed] at h
 omega
theorem sum_le {α : Type} (f : α → Nat) : ∀ {xs : List α} {bl : List Nat}, xs.length = bl.length → (∀ i (h : i < xs.length) (h' : i < bl.length), f xs[i] ≤ bl[i]) → (xs.map f).sum ≤ bl.sum
 | [], bl, h, _ => by simp
 | x :: xs, [], h, _ => by simp at h
 | x :: xs, b :: bl, h, hh => by
   have h0 := hh 0 (by simp) (by simp)
   have := sum_le f (xs := xs) (bl := bl) (by simpa using h) fun i hi hi' => by
    have := hh (i + 1) (by simpa using hi) (by simpa using hi')
    simpa using this
   simp only [List.getElem_cons_zero] at h0
   simp only [List.map_cons, List.sum_cons]
   omega
theorem mem_le_sum : ∀ {bl : List Nat} {i : Nat} (h : i < bl.length), bl[i] ≤ bl.sum
 | [], i, h => by simp at h
 | b :: bl, 0, _ => by simp
 | b :: bl, i + 1, h => by
   have := mem_le_sum (bl := bl) (i := i) (by simpa using h)
   simp only [List.getElem_cons_succ, List.sum_cons]
   omega
section
variable {H : Type} {enc : TypeId × Value → H} {w : World}
theorem bulk_pos (d : DataW H) : 1 ≤ Rows.uptoBulk d := by
 cases d with
 | lit l => cases l <;> simp [Rows.uptoBulk]
 | nil => simp [Rows.uptoBulk]
 | ptr d => simp [Rows.uptoBulk]
 | slice elems spare => simp [Rows.uptoBulk]
 | agg parts => simp [Rows.uptoBulk]
 | iface t d => simp [Rows.uptoBulk]
 | map entries => simp [Rows.uptoBulk]
 | held h => simp [Rows.uptoBulk]
theorem bulk_sum : ∀ l : List (DataW H), Rows.uptoBulkAll l = (l.map Rows.uptoBulk).sum
 | [] => by simp [Rows.uptoBulkAll]
 | d :: l => by simp [Rows.uptoBulkAll, bulk_sum l]
theorem bulk_len : ∀ l : List (DataW H), l.length ≤ Rows.uptoBulkAll l
 | [] => by simp
 | d :: l => by have := bulk_len l; have := bulk_pos d; simp only [Rows.uptoBulkAll, List.length_cons]; omega
def Reads (enc : TypeId × Value → H) (w : World) (t : TypeId) (cs : List Value) (fuel n : Nat) : Prop :=
 ∃ x, DataW.trod enc Try.prog w 0 (fun _ => true) true fuel t cs = some x ∧ Rows.uptoBulk x.1 = n
theorem cell_spot {a : Addr} {v : Value} (h : w.cell? a = some v) : a.spot = none ∧ a.block < w.heap.size := by
 unfold World.cell? at h
 split at h
 · rename_i c t f hb
   split at h
   · cases h
   rename_i hs
   exact ⟨by simpa using hs, (Array.getElem?_eq_some_iff.1 hb).1⟩
 cases h
theorem add_add {b off m j : Nat} : ((⟨b, off, none⟩ : Addr).add m).add j = ⟨b, off + m + j, none⟩ := by
 unfold Addr.add
 by_cases h1 : m = 0
 · subst h1
   by_cases h2 : j = 0
   · subst h2; rfl
   simp [h2]
 by_cases h2 : j = 0
 · subst h2; simp [h1]
 simp [h1, h2]
theorem Reads.slice {t e size fuel n : Nat} {v : Value} (hu : Try.prog.underlying t = some (.slice e)) (hs : Try.prog.cellsOf e = size) (hpos : 0 < size) (hn : n ≤ 1048576) (h : Reads enc w t [v] fuel n) :
 (∃ A, v = .slice A 0 0) ∧ 1 ≤ n ∨ ∃ (b off len cap m : Nat) (bl : List Nat), fuel = m + 1 ∧ v = .slice (some ⟨b, off, none⟩) len cap ∧ len ≤ cap ∧ len ≤ 140737488351232 ∧ cap ≤ maxLen ∧ b < w.heap.size ∧ bl.length = len ∧ bl.sum + 1 ≤ n ∧ len + 1 ≤ n ∧
   ∀ i (hi : i < bl.length), ∃ cs : List Value, cs.length = size ∧ (∀ j, j < size → w.cell? ⟨b, off + i * size + j, none⟩ = cs[j]?) ∧ Reads enc w e cs m bl[i] := by
 obtain ⟨x, hx, hz⟩ := h
 have hpos1 := bulk_pos x.1
 rcases DataW.trod_slice hu hx with ⟨h1, _⟩ | ⟨a, len, cap, elems, rest, m, rfl, h1, rfl, _, hlc, hm, hel, hat, hrest, _⟩
 · injection h1 with h1
   exact .inl ⟨⟨none, h1⟩, by omega⟩
 injection h1 with h1
 subst h1
 obtain ⟨hrl, hra⟩ := hrest rfl
 rw [hs] at hat hra
 by_cases hc : cap = 0
 · subst hc
   have hl0 : len = 0 := by omega
   subst hl0
   exact .inl ⟨⟨_, rfl⟩, by omega⟩
 have hcell : ∃ cs, w.cells? 0 (a.add (0 * size)) size = some cs := by
  by_cases hl : len = 0
  · subst hl
    have := hra 0 (by omega)
    cases hcs : w.cells? 0 (a.add ((0 + 0) * size)) size with
    | some cs => exact ⟨cs, by simp⟩
    | none => rw [hcs, List.getElem?_eq_getElem (by omega)] at this; cases this
  have := hat 0 (by omega)
  cases hcs : w.cells? 0 (a.add (0 * size)) size with
  | some cs => exact ⟨cs, rfl⟩
  | none => rw [hcs, List.getElem?_eq_getElem (by omega)] at this; cases this
 obtain ⟨cs, hcs⟩ := hcell
 obtain ⟨_, hcl, hcc⟩ := World.cells?_some hcs
 have h0 := hcc 0 hpos
 rw [List.getElem?_eq_getElem (by omega)] at h0
 have ha0 : (a.add (0 * size)).add 0 = a := by simp [Addr.add]
 rw [ha0] at h0
 obtain ⟨hsp, hbl⟩ := cell_spot h0
 obtain ⟨b, off, sp⟩ := a
 simp only at hsp hbl
 subst hsp
 simp only [Rows.uptoBulk] at hz
 have hbl1 := bulk_len (elems.map (·.1))
 rw [List.length_map] at hbl1
 refine .inr ⟨b, off, len, cap, m, (elems.map (·.1)).map Rows.uptoBulk, rfl, rfl, hlc, by omega, hm, hbl, by simp [hel], by rw [← bulk_sum]; omega, by omega, fun i hi => ?_⟩
 have hie : i < elems.length := by simpa using hi
 have hi' := hat i (by omega)
 rw [List.getElem?_eq_getElem hie] at hi'
 cases hcs' : w.cells? 0 ((⟨b, off, none⟩ : Addr).add (i * size)) size with
 | none => rw [hcs'] at hi'; cases hi'
 | some cs' =>
   rw [hcs'] at hi'
   obtain ⟨_, hcl', hcc'⟩ := World.cells?_some hcs'
   refine ⟨cs', hcl', fun j hj => ?_, elems[i], hi', ?_⟩
   · rw [← hcc' j hj, add_add]
   simp
theorem Rd.nil_ {w : World} {B size : Nat} (A : Option Addr) : Rd w B (.sl size []) (.slice A 0 0) := by
 cases A with
 | none => exact .none_ _
 | some a => exact .empty _ a
theorem tm_row {m n : Nat} {cs : List Value} (hl : cs.length = 2) (hn : n ≤ 1048576) (h : Reads enc w 51 cs m n) (ih : ∀ m' v n', m' < m → n' ≤ 1048576 → Reads enc w 49 [v] m' n' → ∃ xs : List Tm, Rd w w.heap.size (.sl 2 (xs.map encTm)) v ∧ rngTs xs = true ∧ sizeTs xs + 1 ≤ n') :
 ∃ (t : Tm), ∃ us : Nat → Value, (∀ j, j < 2 → cs[j]? = some (us j)) ∧ (∀ j (h' : j < (encTm t).length), Rd w w.heap.size (encTm t)[j] (us j)) ∧ rngT t = true ∧ sizeT t ≤ n := by
 obtain ⟨c0, c1, rfl⟩ : ∃ c0 c1, cs = [c0, c1] := by
  match cs, hl with
  | [c0, c1], _ => exact ⟨_, _, rfl⟩
 obtain ⟨x, hx, hw⟩ := h
 obtain ⟨xs, m, rfl, rfl, _, hxl, hf⟩ := DataW.trod_struct Try.underlying51 hx
 obtain ⟨x0, x1, rfl⟩ : ∃ x0 x1, xs = [x0, x1] := by
  match xs, hxl with
  | [x0, x1], _ => exact ⟨_, _, rfl⟩
 have f0 := hf 0 _ rfl
 have f1 := hf 1 _ rfl
 simp only [List.getElem?_cons_zero, List.getElem?_cons_succ] at f0 f1
 obtain ⟨f, e0, _, hwf⟩ := DataW.trod_int Try.underlying3 f0
 have e0' : c0 = .int .i64 f := by injection e0
 subst e0'
 simp only [Rows.uptoBulk, Rows.uptoBulkAll, List.map_cons, List.map_nil] at hw
 obtain ⟨ts, hts, hr, hz⟩ := ih m c1 (Rows.uptoBulk x1.1) (by omega) (by omega) ⟨x1, f1, rfl⟩
 refine ⟨.mk f ts, fun j => [Value.int .i64 f, c1][j]?.getD undef, fun j hj => ?_, fun j hj => ?_, ?_, ?_⟩
 · exact getD_lt _ _ _ (by simpa using hj)
 · match j, hj with
   | 0, _ => exact .leaf _
   | 1, _ => show Rd w w.heap.size (.sl 2 (encTms ts)) c1
             rw [encTms_map]; exact hts
 · rw [rngT, hr, Bool.and_true, decide_eq_true_eq]
   exact (int_wf hwf).1
 rw [sizeT]; omega
theorem rngTs_mem : ∀ {xs : List Tm}, (∀ i (h : i < xs.length), rngT xs[i] = true) → rngTs xs = true
 | [], _ => by rw [rngTs]
 | x :: xs, h => by
   rw [rngTs, show rngT x = true from h 0 (by simp), Bool.true_and]
   exact rngTs_mem fun i hi => by have := h (i + 1) (by simpa using hi); simpa using this
theorem sizeTs_sum : ∀ xs : List Tm, sizeTs xs = (xs.map sizeT).sum
 | [] => by rw [sizeTs]; rfl
 | x :: xs => by rw [sizeTs, sizeTs_sum xs]; rfl
theorem open_tms : ∀ (fuel : Nat) (v : Value) (n : Nat), n ≤ 1048576 → Reads enc w 49 [v] fuel n → ∃ xs : List Tm, Rd w w.heap.size (.sl 2 (xs.map encTm)) v ∧ rngTs xs = true ∧ sizeTs xs + 1 ≤ n := by
 intro fuel
 induction fuel using Nat.strongRecOn with
 | ind fuel ih =>
   intro v n hn h
   rcases h.slice Try.underlying49 (size := 2) (by kernel_rfl) (by omega) hn with ⟨⟨A, rfl⟩, hp⟩ | ⟨b, off, len, cap, m, bl, rfl, rfl, h1, h2, h3, h4, h5, h6, -, h7⟩
   · exact ⟨[], Rd.nil_ A, by rw [rngTs], by rw [sizeTs]; omega⟩
   obtain ⟨xs, hxs, hxl, hq⟩ := rd_rows (Q := fun i t => rngT t = true ∧ ∀ h : i < bl.length, sizeT t ≤ bl[i]) encTm encTm_len h1 h2 h3 h4 fun i hi => by
    obtain ⟨cs, hl, hc, hr⟩ := h7 i (by omega)
    have := mem_le_sum (bl := bl) (i := i) (by omega)
    obtain ⟨t, us, hu, hrd, hg, hz⟩ := tm_row hl (by omega) hr (fun m' v n' hm' hn' => ih m' (by omega) v n' hn')
    exact ⟨t, us, fun j hj => (hc j hj).trans (hu j hj), hrd, hg, fun _ => hz⟩
   refine ⟨xs, hxs, rngTs_mem fun i hi => (hq i hi).1, ?_⟩
   have := sum_le sizeT (xs := xs) (bl := bl) (by omega) fun i hi hi' => (hq i hi).2 hi'
   rw [sizeTs_sum]
   omega
theorem open_cl {fuel n : Nat} {v : Value} (hn : n ≤ 1048576) (h : Reads enc w 38 [v] fuel n) : ∃ c : Cl, Rd w w.heap.size (encCl c) v ∧ (∀ x ∈ c, rngL x = true) ∧ sizeC c + 1 ≤ n := by
 rcases h.slice Try.underlying38 (size := 5) (by kernel_rfl) (by omega) hn with ⟨⟨A, rfl⟩, hp⟩ | ⟨b, off, len, cap, m, bl, rfl, rfl, h1, h2, h3, h4, h5, h6, -, h7⟩
 · exact ⟨[], Rd.nil_ A, by simp, by simp [sizeC]; omega⟩
 obtain ⟨xs, hxs, hxl, hq⟩ := rd_rows (Q := fun i x => rngL x = true ∧ ∀ h : i < bl.length, sizeL x ≤ bl[i]) encLt encLt_len h1 h2 h3 h4 fun i hi => by
  obtain ⟨cs, hl, hc, hr⟩ := h7 i (by omega)
  have hbi := mem_le_sum (bl := bl) (i := i) (by omega)
  obtain ⟨c0, c1, c2, c3, c4, rfl⟩ : ∃ c0 c1 c2 c3 c4, cs = [c0, c1, c2, c3, c4] := by
   match cs, hl with
   | [c0, c1, c2, c3, c4], _ => exact ⟨_, _, _, _, _, rfl⟩
  obtain ⟨x, hx, hw⟩ := hr
  obtain ⟨xs, m, rfl, rfl, _, hxl, hf⟩ := DataW.trod_struct Try.underlying53 hx
  obtain ⟨x0, x1, x2, rfl⟩ : ∃ x0 x1 x2, xs = [x0, x1, x2] := by
   match xs, hxl with
   | [x0, x1, x2], _ => exact ⟨_, _, _, rfl⟩
  have f0 := hf 0 _ rfl
  have f1 := hf 1 _ rfl
  have f2 := hf 2 _ rfl
  simp only [List.getElem?_cons_zero, List.getElem?_cons_succ] at f0 f1 f2
  obtain ⟨b', e0, _⟩ := DataW.trod_bool Try.underlying4 f0
  have e0' : c0 = .bool b' := by injection e0
  subst e0'
  simp only [Rows.uptoBulk, Rows.uptoBulkAll, List.map_cons, List.map_nil] at hw
  obtain ⟨t1, us1, hu1, hr1, hg1, hz1⟩ := tm_row (cs := [c1, c2]) rfl (n := Rows.uptoBulk x1.1) (by omega) ⟨x1, f1, rfl⟩ (fun m' v n' _ hn' => open_tms m' v n' hn')
  obtain ⟨t2, us2, hu2, hr2, hg2, hz2⟩ := tm_row (cs := [c3, c4]) rfl (n := Rows.uptoBulk x2.1) (by omega) ⟨x2, f2, rfl⟩ (fun m' v n' _ hn' => open_tms m' v n' hn')
  refine ⟨⟨b', t1, t2⟩, fun j => if j = 0 then .bool b' else if j < 3 then us1 (j - 1) else us2 (j - 3), fun j hj => ?_, fun j hj => ?_, ?_, fun _ => ?_⟩
  · rw [hc j hj]
    match j, hj with
    | 0, _ => rfl
    | 1, _ => exact hu1 0 (by omega)
    | 2, _ => exact hu1 1 (by omega)
    | 3, _ => exact hu2 0 (by omega)
    | 4, _ => exact hu2 1 (by omega)
  · cases t1
    cases t2
    match j, hj with
    | 0, _ => exact .leaf _
    | 1, _ => exact hr1 0 (by simp [encTm])
    | 2, _ => exact hr1 1 (by simp [encTm])
    | 3, _ => exact hr2 0 (by simp [encTm])
    | 4, _ => exact hr2 1 (by simp [encTm])
  · show (rngT t1 && rngT t2) = true
    rw [hg1, hg2]; rfl
  show sizeT t1 + sizeT t2 ≤ _
  omega
 refine ⟨xs, hxs, fun x hx => ?_, ?_⟩
 · obtain ⟨i, hi, rfl⟩ := List.mem_iff_getElem.1 hx
   exact (hq i hi).1
 have := sum_le sizeL (xs := xs) (bl := bl) (by omega) fun i hi hi' => (hq i hi).2 hi'
 unfold sizeC
 omega
theorem open_cls {fuel n : Nat} {v : Value} (hn : n ≤ 1048576) (h : Reads enc w 28 [v] fuel n) : ∃ cs : List Cl, Rd w w.heap.size (encCls cs) v ∧ (∀ c ∈ cs, (∀ x ∈ c, rngL x = true) ∧ sizeC c ≤ n) ∧ cs.length ≤ n := by
 rcases h.slice Try.underlying28 (size := 1) (by kernel_rfl) (by omega) hn with ⟨⟨A, rfl⟩, hp⟩ | ⟨b, off, len, cap, m, bl, rfl, rfl, h1, h2, h3, h4, h5, h6, h8, h7⟩
 · exact ⟨[], Rd.nil_ A, by simp, by simp⟩
 obtain ⟨xs, hxs, hxl, hq⟩ := rd_rows (Q := fun _ (c : Cl) => (∀ x ∈ c, rngL x = true) ∧ sizeC c ≤ n) (fun c => [encCl c]) (fun _ => rfl) h1 h2 h3 h4 fun i hi => by
  obtain ⟨cs, hl, hc, hr⟩ := h7 i (by omega)
  have hbi := mem_le_sum (bl := bl) (i := i) (by omega)
  obtain ⟨c0, rfl⟩ : ∃ c0, cs = [c0] := by
   match cs, hl with
   | [c0], _ => exact ⟨_, rfl⟩
  obtain ⟨c, hrd, hg, hz⟩ := open_cl (by omega) hr
  refine ⟨c, fun _ => c0, fun j hj => ?_, fun j hj => ?_, hg, by omega⟩
  · have hj0 : j = 0 := by have : j < 1 := hj; omega
    subst hj0
    exact hc 0 (by omega)
  have hj0 : j = 0 := by simp at hj; omega
  subst hj0
  exact hrd
 exact ⟨xs, hxs, fun c hc => by obtain ⟨i, hi, rfl⟩ := List.mem_iff_getElem.1 hc; exact hq i hi, by omega⟩
theorem open_is {t fuel n : Nat} {v : Value} (hu : Try.prog.underlying t = some (.slice 3)) (hn : n ≤ 1048576) (h : Reads enc w t [v] fuel n) : ∃ xs : List Int, Rd w w.heap.size (encIs xs) v ∧ xs.length ≤ n := by
 rcases h.slice hu (size := 1) (by kernel_rfl) (by omega) hn with ⟨⟨A, rfl⟩, hp⟩ | ⟨b, off, len, cap, m, bl, rfl, rfl, h1, h2, h3, h4, h5, h6, h8, h7⟩
 · exact ⟨[], Rd.nil_ A, by simp⟩
 obtain ⟨xs, hxs, hxl, hq⟩ := rd_rows (Q := fun _ (_ : Int) => True) (fun n => [.leaf (.int .i64 n)]) (fun _ => rfl) h1 h2 h3 h4 fun i hi => by
  obtain ⟨cs, hl, hc, x, hx, hw⟩ := h7 i (by omega)
  obtain ⟨k, e0, _, hk⟩ := DataW.trod_int Try.underlying3 hx
  subst e0
  refine ⟨k, fun _ => .int .i64 k, fun j hj => ?_, fun j hj => ?_, trivial⟩
  · have hj0 : j = 0 := by have : j < 1 := hj; omega
    subst hj0
    exact hc 0 (by omega)
  have hj0 : j = 0 := by simp at hj; omega
  subst hj0
  exact .leaf _
 exact ⟨xs, hxs, by omega⟩
theorem open_bs {t fuel n : Nat} {v : Value} (hu : Try.prog.underlying t = some (.slice 4)) (hn : n ≤ 1048576) (h : Reads enc w t [v] fuel n) : ∃ xs : List Bool, Rd w w.heap.size (encBs xs) v := by
 rcases h.slice hu (size := 1) (by kernel_rfl) (by omega) hn with ⟨⟨A, rfl⟩, hp⟩ | ⟨b, off, len, cap, m, bl, rfl, rfl, h1, h2, h3, h4, h5, h6, h8, h7⟩
 · exact ⟨[], Rd.nil_ A⟩
 obtain ⟨xs, hxs, hxl, hq⟩ := rd_rows (Q := fun _ (_ : Bool) => True) (fun n => [.leaf (.bool n)]) (fun _ => rfl) h1 h2 h3 h4 fun i hi => by
  obtain ⟨cs, hl, hc, x, hx, hw⟩ := h7 i (by omega)
  obtain ⟨k, e0, _⟩ := DataW.trod_bool Try.underlying4 hx
  subst e0
  refine ⟨k, fun _ => .bool k, fun j hj => ?_, fun j hj => ?_, trivial⟩
  · have hj0 : j = 0 := by have : j < 1 := hj; omega
    subst hj0
    exact hc 0 (by omega)
  have hj0 : j = 0 := by simp at hj; omega
  subst hj0
  exact .leaf _
 exact ⟨xs, hxs⟩
theorem open_sps {fuel n : Nat} {v : Value} (hn : n ≤ 1048576) (h : Reads enc w 29 [v] fuel n) : ∃ l : List Sp, Rd w w.heap.size (encSps l) v ∧ (∀ s ∈ l, (∀ x ∈ s.clause, rngL x = true) ∧ sizeC s.clause ≤ n ∧ s.parents.length ≤ n) ∧ l.length ≤ n := by
 rcases h.slice Try.underlying29 (size := 6) (by kernel_rfl) (by omega) hn with ⟨⟨A, rfl⟩, hp⟩ | ⟨b, off, len, cap, m, bl, rfl, rfl, h1, h2, h3, h4, h5, h6, h8, h7⟩
 · exact ⟨[], Rd.nil_ A, by simp, by simp⟩
 obtain ⟨xs, hxs, hxl, hq⟩ := rd_rows (Q := fun _ (s : Sp) => (∀ x ∈ s.clause, rngL x = true) ∧ sizeC s.clause ≤ n ∧ s.parents.length ≤ n) encSp (fun _ => rfl) h1 h2 h3 h4 fun i hi => by
  obtain ⟨cs, hl, hc, x, hx, hw⟩ := h7 i (by omega)
  have hbi := mem_le_sum (bl := bl) (i := i) (by omega)
  obtain ⟨c0, c1, c2, c3, c4, c5, rfl⟩ : ∃ c0 c1 c2 c3 c4 c5, cs = [c0, c1, c2, c3, c4, c5] := by
   match cs, hl with
   | [c0, c1, c2, c3, c4, c5], _ => exact ⟨_, _, _, _, _, _, rfl⟩
  obtain ⟨xs, m, rfl, rfl, _, hxl, hf⟩ := DataW.trod_struct Try.underlying45 hx
  obtain ⟨x0, x1, x2, x3, x4, x5, rfl⟩ : ∃ x0 x1 x2 x3 x4 x5, xs = [x0, x1, x2, x3, x4, x5] := by
   match xs, hxl with
   | [x0, x1, x2, x3, x4, x5], _ => exact ⟨_, _, _, _, _, _, rfl⟩
  have f0 := hf 0 _ rfl
  have f1 := hf 1 _ rfl
  have f2 := hf 2 _ rfl
  have f3 := hf 3 _ rfl
  have f4 := hf 4 _ rfl
  have f5 := hf 5 _ rfl
  simp only [List.getElem?_cons_zero, List.getElem?_cons_succ] at f0 f1 f2 f3 f4 f5
  obtain ⟨r, e0, _, _⟩ := DataW.trod_int Try.underlying40 f0
  have e0' : c0 = .int .i64 r := by injection e0
  subst e0'
  simp only [Rows.uptoBulk, Rows.uptoBulkAll, List.map_cons, List.map_nil] at hw
  obtain ⟨l1, r1, z1⟩ := open_is (v := c1) Try.underlying41 (n := Rows.uptoBulk x1.1) (by omega) ⟨x1, f1, rfl⟩
  obtain ⟨l2, r2, -⟩ := open_is (v := c2) Try.underlying41 (n := Rows.uptoBulk x2.1) (by omega) ⟨x2, f2, rfl⟩
  obtain ⟨l3, r3⟩ := open_bs (v := c3) Try.underlying42 (n := Rows.uptoBulk x3.1) (by omega) ⟨x3, f3, rfl⟩
  obtain ⟨l4, r4, -⟩ := open_is (v := c4) Try.underlying43 (n := Rows.uptoBulk x4.1) (by omega) ⟨x4, f4, rfl⟩
  obtain ⟨c, r5, g5, z5⟩ := open_cl (v := c5) (n := Rows.uptoBulk x5.1) (by omega) ⟨x5, f5, rfl⟩
  refine ⟨⟨r, l1, l2, l3, l4, c⟩, fun j => [Value.int .i64 r, c1, c2, c3, c4, c5][j]?.getD undef, fun j hj => ?_, fun j hj => ?_, g5, ?_, ?_⟩
  · rw [hc j hj]; exact getD_lt _ _ _ (by simpa using hj)
  · match j, hj with
    | 0, _ => exact .leaf _
    | 1, _ => exact r1
    | 2, _ => exact r2
    | 3, _ => exact r3
    | 4, _ => exact r4
    | 5, _ => exact r5
  · show sizeC c ≤ n; omega
  show l1.length ≤ n; omega
 exact ⟨xs, hxs, fun c hc => by obtain ⟨i, hi, rfl⟩ := List.mem_iff_getElem.1 hc; exact hq i hi, by omega⟩
end
theorem cells_slice {W : World} {base : Nat} {t e : TypeId} {v : Value} (hu : Try.prog.underlying t = some (.slice e)) (h : Value.okWide Try.prog W .any base t v) : v.cells.toList = [v] := by
 unfold Value.okWide at h
 rw [hu] at h
 simp only [Cell.okWide, hu, Cell.ok] at h
 cases v <;> first | rfl | exact h.elim | (simp at h)
theorem open_cls_arg {H : Type} {enc : TypeId × Value → H} {W : World} {base : Nat} {v : Value} {d : DataW H} {ps : List MemPlace} (hval : Value.okWide Try.prog W .any base 28 v) (h : DataW.Trod enc Try.prog W 0 (fun _ => true) true 28 v d ps)
 (hz : Rows.uptoBulk d ≤ 1048576) : ∃ cs : List Cl, Rd W W.heap.size (encCls cs) v ∧ (∀ c ∈ cs, (∀ x ∈ c, rngL x = true) ∧ sizeC c ≤ 1048576) ∧ cs.length ≤ 1048576 := by
 obtain ⟨fuel, hf⟩ := h
 rw [cells_slice Try.underlying28 hval] at hf
 obtain ⟨cs, h1, h2, h3⟩ := open_cls hz ⟨_, hf, rfl⟩
 exact ⟨cs, h1, fun c hc => ⟨(h2 c hc).1, Nat.le_trans (h2 c hc).2 hz⟩, Nat.le_trans h3 hz⟩
theorem open_sps_arg {H : Type} {enc : TypeId × Value → H} {W : World} {base : Nat} {v : Value} {d : DataW H} {ps : List MemPlace} (hval : Value.okWide Try.prog W .any base 29 v) (h : DataW.Trod enc Try.prog W 0 (fun _ => true) true 29 v d ps)
 (hz : Rows.uptoBulk d ≤ 1048576) : ∃ l : List Sp, Rd W W.heap.size (encSps l) v ∧ StepOk l ∧ (∀ s ∈ l, sizeC s.clause ≤ 1048576) ∧ l.length ≤ 1048576 := by
 obtain ⟨fuel, hf⟩ := h
 rw [cells_slice Try.underlying29 hval] at hf
 obtain ⟨l, h1, h2, h3⟩ := open_sps hz ⟨_, hf, rfl⟩
 exact ⟨l, h1, ⟨fun q hq => (h2 q hq).1, fun q hq => by have := (h2 q hq).2.1; omega, fun q hq => by have := (h2 q hq).2.2; omega⟩, fun s hs => by have := (h2 s hs).2.1; omega, by omega⟩
/-! ## Behind the call -/
section
variable {H : Type} {enc : TypeId × Value → H} {W W' : World}
theorem trodAll_below : ∀ {ts : List TypeId} {vs : List Value} {ds : List (DataW H)} {ps : List MemPlace}, laidOutB Try.prog = true → (∀ t ∈ ts, Try.prog.readableRec t = true ∧ t < Try.prog.types.size) →
 DataW.TrodAll enc Try.prog W 0 (fun _ => true) true ts vs ds ps → (∀ x ∈ ps, x.block < W.heap.size) → Below W.heap.size W W' → DataW.TrodAll enc Try.prog W' 0 (fun b => decide (b < W.heap.size)) true ts vs ds ps
 | [], vs, ds, ps, _, _, h, _, _ => by
   cases vs <;> cases ds <;> exact h
 | t :: ts, vs, ds, ps, hl, ht, h, hlt, hb => by
   obtain ⟨v, vs', d, ds', p, q, rfl, rfl, rfl, hd, hr⟩ := trodAll_cons h
   have ht1 := ht t (List.mem_cons_self ..)
   exact ⟨p, q, Below.trod hl ht1.1 ht1.2 hd hb (fun x hx => hlt x (List.mem_append_left _ hx)), trodAll_below hl (fun u hu => ht u (List.mem_cons_of_mem _ hu)) hr (fun x hx => hlt x (List.mem_append_right _ hx)) hb, rfl⟩
theorem law_post {fn : Func} {s : ChangeSpec} {args : Array Value} {ds gs : List (DataW H)} {before : List MemPlace} (hres : fn.resultTypes = #[4]) (hv : s.vars = []) (hro : ∀ t ∈ fn.params.toList, Try.prog.readableRec t = true ∧ t < Try.prog.types.size)
 (hl : laidOutB Try.prog = true) (hs : s.fn H (ds ++ gs) = { results := [.lit (.bool true)], args := ds }) (hW : DataW.Whole enc Try.prog fn.params.toList s.vars false W args.toList ds gs before) (hb : Below W.heap.size W W') :
 s.post enc Try.prog fn false true false false W args (.bool true) W' := by
 have hlt := hW.lt
 have hW' := hW
 obtain ⟨p, q, hA, hV, rfl, _, _⟩ := hW'
 refine ⟨ds, gs, p ++ q, [], p, [], hW, ?_, ?_, ?_, hb.frame _, fun h => by cases h⟩
 · rw [hres, hs]
   exact trodAll_mk1 (shut_bool Try.underlying4 _)
 · rw [hs]
   exact trodAll_below hl hro hA (fun x hx => hlt x (List.mem_append_left _ hx)) hb
 rw [hs, hv]
 exact rfl
end
end Go.Proofs.Ytiaoabfndnidiaa
namespace Go.Proofs.Ytiaoabfndnidiaa
open Go.RowKit
def PfRes (inp : List Cl) (ps : List Sp) (at_ err : Int) : Prop :=
 (∃ k, k < ps.length ∧ (∀ j, j < k → stepM inp ps (j : Nat) = true) ∧ stepM inp ps (k : Nat) = false ∧ at_ = (k : Nat) ∧ err = 400) ∨
 ((∀ j, j < ps.length → stepM inp ps (j : Nat) = true) ∧ at_ = 0 ∧ err = (match ps.getLast? with | none => 401 | some s => if s.clause.length = 0 then 0 else 401))
def PrRes (inp : List Cl) (ps : List Sp) (w : World) (e : Ending) (w' : World) : Prop :=
 Below w.heap.size w w' ∧ ∃ at_ err : Int, e = .returned (.tuple #[.int .i64 at_, .int .i64 err]) ∧ PfRes inp ps at_ err
theorem proof_any (inp : List Cl) (ps : List Sp) (vi vp : Value) (B : Nat) (w : World) (hi : Rd w B (encCls inp) vi) (hp : Rd w B (encSps ps) vp) (hB : B ≤ w.heap.size) (hok : StepOk ps) :
 Calls Try.prog 24 #[vi, vp] w (PrRes inp ps w) := by
 obtain ⟨Ai, ci, rfl, -, -, -⟩ := Rd.row_form (show Rd w B (.sl 1 (inp.map fun c => [encCl c])) vi from hi)
 obtain ⟨Ap, cp, rfl, hp1, hp2, hp3⟩ := Rd.row_form (show Rd w B (.sl 6 (ps.map encSp)) vp from hp)
 have Hi := Lh hi
 have Hp := Lh hp
 have Hok := Lh hok
 clear hi hp hok
 go_enter Try.func24, Try.ntmps24
 go_upto_region 2 with fail
 have hx1 : Box2 w.heap.size 66 (.slice Ai inp.length ci) (.slice Ap ps.length cp) (w.alloc (.cells #[.slice Ai inp.length ci, .slice Ap ps.length cp] 66)) := heap_alloc_new w _
 have hB1 := below_box w (.cells #[.slice Ai inp.length ci, .slice Ap ps.length cp] 66)
 generalize w.alloc (.cells #[.slice Ai inp.length ci, .slice Ap ps.length cp] 66) = w1 at hx1 hB1 ⊢
 have hz1 := hB1.size
 have HX1 := Lh hx1
 have HB1 := Lh hB1
 clear hx1 hB1
 go_upto_region 3 with fail
 go_loopw [13] (fun i wr => ∃ k : Nat, k ≤ ps.length ∧ i = .int .i64 k ∧ (∀ j, j < k → stepM inp ps (j : Nat) = true) ∧ Below w1.heap.size w1 wr) (fun i _ => ps.length - (intOf i).toNat)
 case atStart => exact ⟨0, Nat.zero_le _, rfl, fun j hj => by omega, Below.refl _ _⟩
 obtain ⟨k, hk, rfl, hall, hup⟩ := hrel
 have Hall := Lh hall
 have Hup := Lh hup
 have hzr := hup.size
 clear hall hup
 have hlow : Below w.heap.size w wr := HB1.out.trans (Hup.out.mono hz1)
 have Hlow := Lh hlow
 clear hlow
 obtain ⟨y0, y1, -⟩ := (HX1.out.low Hup.out).cells
 by_cases hlt : k < ps.length
 · have hst := stepIn_any inp ps k _ _ B wr (Hi.out.low Hlow.out hB) (Hp.out.low Hlow.out hB) (by omega) hlt Hok.out
   obtain ⟨b, hb⟩ : ∃ b, stepM inp ps (k : Nat) = b := ⟨_, rfl⟩
   rw [hb] at hst
   have Hst := Lh hst
   have Hb := Lh hb
   clear hst hb
   cases b with
   | false =>
     go_wp2_with (
      go_at_call 23
      refine Hst.out.mono ?_
      rintro e w2 ⟨rfl, hb2⟩)
     refine bodyPost_ret (v := .tuple #[.int .i64 k, .int .i64 400]) (by simp [results, Try.results24, go_sem]) rfl ?_
     exact ⟨Hlow.out.trans (hb2.mono Hlow.out.size), _, _, rfl, .inl ⟨k, hlt, Hall.out, Hb.out, rfl, rfl⟩⟩
   | true =>
     go_wp2_with (
      go_at_call 23
      refine Hst.out.mono ?_
      rintro e w2 ⟨rfl, hb2⟩)
     go_roundw
     case rel =>
      refine ⟨k + 1, by omega, by go_num, fun j hj => ?_, Hup.out.trans (hb2.mono hzr)⟩
      by_cases hjk : j = k
      · subst hjk; exact Hb.out
      exact Hall.out j (by omega)
     case measure => simp [intOf]; omega
 have hke : k = ps.length := by omega
 have hal : ∀ j, j < ps.length → stepM inp ps (j : Nat) = true := fun j hj => Hall.out j (by omega)
 have Hal := Lh hal
 subst hke
 clear hal Hall y0 y1 hk hlt
 by_cases h0 : ps = []
 · have h0' : (ps.length : Int) = 0 := by rw [h0]; rfl
   go_wp2_with fail
   refine bodyPost_ret (v := .tuple #[.int .i64 0, .int .i64 401]) (by simp [results, Try.results24, go_sem]) rfl ?_
   refine ⟨Hlow.out, _, _, rfl, .inr ⟨Hal.out, rfl, ?_⟩⟩
   rw [h0]
   rfl
 obtain ⟨m, s, hml, hms, hlen, hla⟩ : ∃ m s, ∃ h : m < ps.length, ps[m] = s ∧ ps.length = m + 1 ∧ ps.getLast? = some s := by
  have hp0 : 0 < ps.length := List.length_pos_iff.2 h0
  refine ⟨ps.length - 1, _, by omega, rfl, by omega, ?_⟩
  rw [List.getLast?_eq_getElem?, List.getElem?_eq_getElem (by omega)]
 obtain ⟨pb, po, u1, u2, u3, u4, u5, rfl, hpb, -, -, -, -, -, p5, hsn⟩ := (Hp.out.low Hlow.out hB).sp_at hml
 rw [hms] at hsn
 obtain ⟨-, -, -, -, -, -, -, -, A6, c6, -, -, -, -, rfl, -⟩ := hsn.forms
 have Hla := Lh hla
 have h0' : ¬ ((ps.length : Int) = 0) := by omega
 have hm1 : (ps.length : Int) - 1 = (m : Int) := by omega
 have hm3 : ¬ ((ps.length : Int) ≤ (m : Int)) := by omega
 clear hsn hla hlen hms
 by_cases hc : s.clause.length = 0
 · have hc' : ¬ (0 < (s.clause.length : Int)) := by omega
   go_wp2_with fail
   refine bodyPost_ret (v := .tuple #[.int .i64 0, .int .i64 0]) (by simp [results, Try.results24, go_sem]) rfl ?_
   refine ⟨Hlow.out, _, _, rfl, .inr ⟨Hal.out, rfl, ?_⟩⟩
   rw [Hla.out]
   exact (if_pos hc).symm
 have hc' : 0 < (s.clause.length : Int) := by omega
 go_wp2_with fail
 refine bodyPost_ret (v := .tuple #[.int .i64 0, .int .i64 401]) (by simp [results, Try.results24, go_sem]) rfl ?_
 refine ⟨Hlow.out, _, _, rfl, .inr ⟨Hal.out, rfl, ?_⟩⟩
 rw [Hla.out]
 exact (if_neg hc).symm
def IntRes (n : Int) (w : World) (e : Ending) (w' : World) : Prop := e = .returned (.int .i64 n) ∧ Below w.heap.size w w'
theorem size2_any (d : Nat) : ∀ (f : Int) (xs : List Tm) (v2 : Value) (B : Nat) (w : World), sizeTs xs < d → sizeTs xs ≤ 10000000000 → Rd w B (.sl 2 (encTms xs)) v2 → B ≤ w.heap.size →
 Calls Try.prog 18 #[.agg #[.int .i64 f, v2]] w (IntRes (sizeTs xs + 1 : Nat) w) := by
 induction d with
 | zero => intro f xs v2 B w h; omega
 | succ d ih =>
 intro f xs v2 B w hd hz hr hB
 obtain ⟨A, c, rfl, hc, hn, hm⟩ := hr.tm_form
 have H3 := Lh hr
 have Hih := Lh ih
 clear hr ih
 go_enter Try.func18, Try.ntmps18
 go_wp2_with fail
 go_loopw [3, 4] (fun n i wr => ∃ k : Nat, k ≤ xs.length ∧ i = .int .i64 k ∧ n = .int .i64 ((sizeTs (xs.take k) + 1 : Nat) : Int) ∧ Below w.heap.size w wr ∧ wr.heap[w.heap.size]? = some (Obj.cells #[Value.int .i64 f, Value.slice A xs.length c] 51 (0, 0))) (fun _ i _ => xs.length - (intOf i).toNat)
 case atStart => exact ⟨0, Nat.zero_le _, rfl, rfl, below_box w _, heap_alloc_new w _⟩
 obtain ⟨k, hk, rfl, rfl, hbel, hown⟩ := hrel
 have hsz := ltOf hown
 have hown2 := fun o => cell_of_row wr w.heap.size o _ _ _ hown
 have Hown := Lh hown
 have Hbel := Lh hbel
 clear hown hbel
 by_cases hlt : k < xs.length
 · obtain ⟨ab, off, f', ys, A2, c2, rfl, hxk, hb, c0, c1, hrd⟩ := (H3.out.low Hbel.out hB).tm_at hlt
   have h1 := sizeTs_mem hlt
   have h2 := sizeTs_take hlt
   have h3 := sizeTs_take_le xs (k + 1)
   rw [hxk] at h1 h2
   simp only [sizeT] at h1 h2
   have Hr := Lh hrd
   clear hxk hrd
   go_wp2_with (
    go_at_call 18
    refine (Hih.out f' ys _ _ _ (by omega) (by omega) Hr.out (by have := Hbel.out.size; omega)).mono ?_
    rintro e w1 ⟨rfl, hb1⟩)
   go_roundw
   case rel =>
    have hb2 : Below wr.heap.size wr w1 := by exact hb1
    refine ⟨k + 1, by omega, by go_num, ?_, Hbel.out.trans (hb2.mono (by omega)), ?_⟩
    · rw [h2]; congr 1; omega
    rw [hb2.block _ hsz]; exact Hown.out
   case measure => simp [intOf]; omega
 have e : xs.take k = xs := List.take_of_length_le (by omega)
 rw [e]
 go_wp2_with fail
 go_ret
 exact ⟨rfl, Hbel.out⟩
theorem depth2_any (d : Nat) : ∀ (f : Int) (xs : List Tm) (v2 : Value) (B : Nat) (w : World), sizeTs xs < d → sizeTs xs ≤ 10000000000 → Rd w B (.sl 2 (encTms xs)) v2 → B ≤ w.heap.size →
 Calls Try.prog 56 #[.agg #[.int .i64 f, v2]] w (IntRes (depthTs xs + 1 : Nat) w) := by
 induction d with
 | zero => intro f xs v2 B w h; omega
 | succ d ih =>
 intro f xs v2 B w hd hz hr hB
 obtain ⟨A, c, rfl, hc, hn, hm⟩ := hr.tm_form
 have H3 := Lh hr
 have Hih := Lh ih
 clear hr ih
 go_enter Try.func56, Try.ntmps56
 go_wp2_with fail
 go_loopw [3, 4] (fun n i wr => ∃ k : Nat, k ≤ xs.length ∧ i = .int .i64 k ∧ n = .int .i64 (depthTs (xs.take k) : Nat) ∧ Below w.heap.size w wr ∧ wr.heap[w.heap.size]? = some (Obj.cells #[Value.int .i64 f, Value.slice A xs.length c] 51 (0, 0))) (fun _ i _ => xs.length - (intOf i).toNat)
 case atStart => exact ⟨0, Nat.zero_le _, rfl, rfl, below_box w _, heap_alloc_new w _⟩
 obtain ⟨k, hk, rfl, rfl, hbel, hown⟩ := hrel
 have hsz := ltOf hown
 have hown2 := fun o => cell_of_row wr w.heap.size o _ _ _ hown
 have Hown := Lh hown
 have Hbel := Lh hbel
 clear hown hbel
 by_cases hlt : k < xs.length
 · obtain ⟨ab, off, f', ys, A2, c2, rfl, hxk, hb, c0, c1, hrd⟩ := (H3.out.low Hbel.out hB).tm_at hlt
   have h1 := sizeTs_mem hlt
   have h4 := depthTs_take hlt
   have h5 := depthTs_le ys
   have h6 := depthTs_le (xs.take k)
   have h7 := sizeTs_take_le xs k
   rw [hxk] at h1 h4
   simp only [sizeT, depthT] at h1 h4
   have Hr := Lh hrd
   have H4 := Lh h4
   clear hxk hrd h4
   go_wp2_with (
    go_at_call 56
    refine (Hih.out f' ys _ _ _ (by omega) (by omega) Hr.out (by have := Hbel.out.size; omega)).mono ?_
    rintro e w1 ⟨rfl, hb1⟩)
   go_roundw
   case rel =>
    have hb2 : Below wr.heap.size wr w1 := by exact hb1
    refine ⟨k + 1, by omega, by go_num, ?_, Hbel.out.trans (hb2.mono (by omega)), ?_⟩
    · rw [H4.out]; congr 1; omega
    rw [hb2.block _ hsz]; exact Hown.out
   case measure => simp [intOf]; omega
 have e : xs.take k = xs := List.take_of_length_le (by omega)
 have h6 := depthTs_le xs
 rw [e]
 go_wp2_with fail
 go_ret
 exact ⟨by simp, Hbel.out⟩
mutual
def lowB (most : Int) : Tm → Bool
 | .mk f xs => if f < 0 then decide (-most ≤ f) && decide (xs.length = 0) else lowBs most xs
def lowBs (most : Int) : List Tm → Bool
 | [] => true
 | x :: xs => lowB most x && lowBs most xs
end
theorem lowBs_all (m : Int) : ∀ xs : List Tm, lowBs m xs = xs.all (lowB m)
 | [] => by rw [lowBs]; rfl
 | x :: xs => by rw [lowBs, lowBs_all m xs]; rfl
theorem low_any (d : Nat) : ∀ (f : Int) (xs : List Tm) (v2 : Value) (B : Nat) (w : World) (most : Int), sizeTs xs < d → 0 ≤ most → most ≤ 1000000 → Rd w B (.sl 2 (encTms xs)) v2 → B ≤ w.heap.size →
 Calls Try.prog 57 #[.agg #[.int .i64 f, v2], .int .i64 most] w (BoolRes (lowB most (.mk f xs)) w) := by
 induction d with
 | zero => intro f xs v2 B w most h; omega
 | succ d ih =>
 intro f xs v2 B w most hd hm0 hm1 hr hB
 obtain ⟨A, c, rfl, hc, hn, hm⟩ := hr.tm_form
 have H3 := Lh hr
 have Hih := Lh ih
 clear hr ih
 by_cases hf : f < 0
 · have e : lowB most (.mk f xs) = (decide (-most ≤ f) && ((xs.length : Int) == 0)) := by rw [lowB, if_pos hf]; congr 1; rw [Bool.eq_iff_iff]; simp
   rw [e]
   have hmn : wrap64 (-most) = -most := by unfold wrap64; omega
   clear e
   by_cases h1 : -most ≤ f
   · have h1' : (decide (-most ≤ f)) = true := by simp [h1]
     rw [h1', Bool.true_and]
     go_enter Try.func57, Try.ntmps57
     go_wp2_with fail
     go_ret
     exact ⟨rfl, below_box w _⟩
   have h1' : (decide (-most ≤ f)) = false := by simp; omega
   rw [h1', Bool.false_and]
   go_enter Try.func57, Try.ntmps57
   go_wp2_with fail
   go_ret
   exact ⟨rfl, below_box w _⟩
 have e : lowB most (.mk f xs) = xs.all (lowB most) := by rw [lowB, if_neg hf, lowBs_all]
 have He := Lh e
 clear e
 go_enter Try.func57, Try.ntmps57
 go_wp2_with fail
 go_loopw [5] (fun i wr => ∃ k : Nat, k ≤ xs.length ∧ i = .int .i64 k ∧ (∀ j (h : j < xs.length), j < k → lowB most xs[j] = true) ∧ Below w.heap.size w wr ∧ wr.heap[w.heap.size]? = some (Obj.cells #[Value.int .i64 f, Value.slice A xs.length c] 51 (0, 0))) (fun i _ => xs.length - (intOf i).toNat)
 case atStart => exact ⟨0, Nat.zero_le _, rfl, fun j _ hj => by omega, below_box w _, heap_alloc_new w _⟩
 obtain ⟨k, hk, rfl, hall, hbel, hown⟩ := hrel
 have hsz := ltOf hown
 have hown2 := fun o => cell_of_row wr w.heap.size o _ _ _ hown
 have Hall := Lh hall
 have Hown := Lh hown
 have Hbel := Lh hbel
 clear hown hbel hall
 by_cases hlt : k < xs.length
 · obtain ⟨ab, off, f', ys, A2, c2, rfl, hxk, hb, c0, c1, hrd⟩ := (H3.out.low Hbel.out hB).tm_at hlt
   have h1 := sizeTs_mem hlt
   rw [hxk] at h1
   simp only [sizeT] at h1
   obtain ⟨b, hb'⟩ : ∃ b, lowB most xs[k] = b := ⟨_, rfl⟩
   have hcl := Hih.out f' ys _ _ wr most (by omega) hm0 hm1 hrd (by have := Hbel.out.size; omega)
   rw [← hxk, hb'] at hcl
   have Hcl := Lh hcl
   have Hb := Lh hb'
   clear hxk hrd hb' hcl
   cases b with
   | false =>
     go_wp2_with (
      go_at_call 57
      refine Hcl.out.mono ?_
      rintro e w1 ⟨rfl, hb1⟩)
     go_ret
     have ha : xs.all (lowB most) = false := List.all_eq_false.2 ⟨_, List.getElem_mem hlt, by rw [Hb.out]; decide⟩
     rw [He.out, ha]
     exact ⟨rfl, Hbel.out.trans (hb1.mono Hbel.out.size)⟩
   | true =>
     go_wp2_with (
      go_at_call 57
      refine Hcl.out.mono ?_
      rintro e w1 ⟨rfl, hb1⟩)
     go_roundw
     case rel =>
      refine ⟨k + 1, by omega, by go_num, fun j hj hjk => ?_, Hbel.out.trans (hb1.mono Hbel.out.size), ?_⟩
      · by_cases e : j = k
        · subst e; exact Hb.out
        exact Hall.out j hj (by omega)
      rw [hb1.block _ hsz]; exact Hown.out
     case measure => simp [intOf]; omega
 go_wp2_with fail
 go_ret
 have ha : xs.all (lowB most) = true := List.all_eq_true.2 fun x hx => by
  obtain ⟨j, hj, rfl⟩ := List.mem_iff_getElem.1 hx
  exact Hall.out j hj (by omega)
 rw [He.out, ha]
 exact ⟨rfl, Hbel.out⟩
theorem Box5.low' {b : Nat} {t : TypeId} {x0 x1 x2 x3 x4 : Value} {w w' : World} (h : Box5 b t x0 x1 x2 x3 x4 w) (hb : Below w.heap.size w w') : Box5 b t x0 x1 x2 x3 x4 w' := (hb.block b h.lt).trans h
def NatRes (m : Nat) (w : World) (e : Ending) (w' : World) : Prop := ∃ n : Nat, n ≤ m ∧ e = .returned (.int .i64 n) ∧ Below w.heap.size w w'
def SomeBool (w : World) (e : Ending) (w' : World) : Prop := ∃ b : Bool, e = .returned (.bool b) ∧ Below w.heap.size w w'
theorem true_any (f : Int) (xs : List Tm) (v2 : Value) (B : Nat) (w : World) (hr : Rd w B (.sl 2 (encTms xs)) v2) :
 Calls Try.prog 26 #[.agg #[.int .i64 f, v2]] w (BoolRes (truthB f xs.length) w) := by
 obtain ⟨A, c, rfl, hc, hn, hm⟩ := hr.tm_form
 clear hr
 by_cases hf : f = 0
 · subst hf
   by_cases hx : xs.length = 0
   · have hb : truthB 0 xs.length = true := by unfold truthB; simp [hx]
     have Hb := Lh hb
     have q : ((xs.length : Int) == 0) = true := by rw [hx]; rfl
     clear hb
     go_enter Try.func26, Try.ntmps26
     go_wp2_with fail
     go_ret
     exact ⟨by rw [Hb.out]; rfl, below_box w _⟩
   have hb : truthB 0 xs.length = false := by unfold truthB; simp [hx]
   have Hb := Lh hb
   have q : ((xs.length : Int) == 0) = false := by rw [beq_eq_false_iff_ne]; omega
   clear hb hx
   go_enter Try.func26, Try.ntmps26
   go_wp2_with fail
   go_ret
   exact ⟨by rw [Hb.out]; rfl, below_box w _⟩
 have hb : truthB f xs.length = false := by unfold truthB; simp [hf]
 have Hb := Lh hb
 have q : (f == 0) = false := by rw [beq_eq_false_iff_ne]; exact hf
 clear hb hf
 go_enter Try.func26, Try.ntmps26
 go_wp2_with fail
 go_ret
 exact ⟨by rw [Hb.out]; rfl, below_box w _⟩
theorem lit11_any (x : Lt) (v : Value) (B : Nat) (w : World) (hv : LtV w B x v) (hz : sizeL x ≤ 2000000) (hB : B ≤ w.heap.size) :
 Calls Try.prog 31 #[v] w (NatRes 4000000 w) := by
 obtain ⟨n0, ⟨f1, ys1⟩, ⟨f2, ys2⟩⟩ := x
 obtain ⟨A1, c1, A2, c2, rfl, h1, h2⟩ := hv
 simp only [Tm.fn, Tm.args] at h1 h2 ⊢
 simp only [sizeL, sizeT] at hz
 obtain ⟨bt, ht⟩ : ∃ b, truthB f2 ys2.length = b := ⟨_, rfl⟩
 have H1 := Lh h1
 have H2 := Lh h2
 have Ht := Lh ht
 clear h1 h2 ht
 cases bt with
 | true =>
   go_enter Try.func31, Try.ntmps31
   go_upto_region 1 with fail
   have hbx := below_box w (.cells #[.bool n0, .int .i64 f1, .slice A1 ys1.length c1, .int .i64 f2, .slice A2 ys2.length c2] 53)
   have hx1 : Box5 w.heap.size 53 (.bool n0) (.int .i64 f1) (.slice A1 ys1.length c1) (.int .i64 f2) (.slice A2 ys2.length c2) (w.alloc (.cells #[.bool n0, .int .i64 f1, .slice A1 ys1.length c1, .int .i64 f2, .slice A2 ys2.length c2] 53)) := heap_alloc_new w _
   generalize w.alloc (.cells #[.bool n0, .int .i64 f1, .slice A1 ys1.length c1, .int .i64 f2, .slice A2 ys2.length c2] 53) = w1 at hbx hx1 ⊢
   have hz1 := hbx.size
   have HX1 := Lh hx1
   have HB1 := Lh hbx
   obtain ⟨x0, x1, x2, x3, x4⟩ := hx1.cells
   clear hx1 hbx
   go_wp2_with (
    first
    | (
     skip
     go_at_call 18
     refine (size2_any (sizeTs ys1 + 1) f1 ys1 _ B w1 (by omega) (by omega) (H1.out.low HB1.out hB) (by omega)).mono ?_
     rintro e w2 ⟨rfl, hb2⟩
     obtain ⟨x0, x1, x2, x3, x4⟩ := (HX1.out.low' hb2).cells
     have Hb2 := Lh hb2
     clear hb2
      )
    | (
     skip
     go_at_call 26
     refine (true_any f2 ys2 _ B _ (H2.out.low (HB1.out.trans (Hb2.out.mono hz1)) hB)).mono ?_
     rintro e w3 ⟨rfl, hb3⟩
     rw [Ht.out]
     obtain ⟨x0, x1, x2, x3, x4⟩ := ((HX1.out.low' Hb2.out).low' hb3).cells
     have Hb3 := Lh hb3
     clear hb3
      ))
   go_ret
   exact ⟨sizeTs ys1 + 1, by omega, rfl, HB1.out.trans ((Hb2.out.trans (Hb3.out.mono Hb2.out.size)).mono hz1)⟩
 | false =>
   go_enter Try.func31, Try.ntmps31
   go_upto_region 1 with fail
   have hbx := below_box w (.cells #[.bool n0, .int .i64 f1, .slice A1 ys1.length c1, .int .i64 f2, .slice A2 ys2.length c2] 53)
   have hx1 : Box5 w.heap.size 53 (.bool n0) (.int .i64 f1) (.slice A1 ys1.length c1) (.int .i64 f2) (.slice A2 ys2.length c2) (w.alloc (.cells #[.bool n0, .int .i64 f1, .slice A1 ys1.length c1, .int .i64 f2, .slice A2 ys2.length c2] 53)) := heap_alloc_new w _
   generalize w.alloc (.cells #[.bool n0, .int .i64 f1, .slice A1 ys1.length c1, .int .i64 f2, .slice A2 ys2.length c2] 53) = w1 at hbx hx1 ⊢
   have hz1 := hbx.size
   have HX1 := Lh hx1
   have HB1 := Lh hbx
   obtain ⟨x0, x1, x2, x3, x4⟩ := hx1.cells
   clear hx1 hbx
   go_wp2_with (
    first
    | (
     go_at_call 18
     refine (size2_any (sizeTs ys2 + 1) f2 ys2 _ B _ (by omega) (by omega) (H2.out.low (HB1.out.trans ((Hb2.out.trans (Hb3.out.mono Hb2.out.size)).mono hz1)) hB) (by have := Hb2.out.size; have := Hb3.out.size; omega)).mono ?_
     rintro e w4 ⟨rfl, hb4⟩
     have Hb4 := Lh hb4
     clear hb4)
    | (
     skip
     go_at_call 18
     refine (size2_any (sizeTs ys1 + 1) f1 ys1 _ B w1 (by omega) (by omega) (H1.out.low HB1.out hB) (by omega)).mono ?_
     rintro e w2 ⟨rfl, hb2⟩
     obtain ⟨x0, x1, x2, x3, x4⟩ := (HX1.out.low' hb2).cells
     have Hb2 := Lh hb2
     clear hb2
      )
    | (
     skip
     go_at_call 26
     refine (true_any f2 ys2 _ B _ (H2.out.low (HB1.out.trans (Hb2.out.mono hz1)) hB)).mono ?_
     rintro e w3 ⟨rfl, hb3⟩
     rw [Ht.out]
     obtain ⟨x0, x1, x2, x3, x4⟩ := ((HX1.out.low' Hb2.out).low' hb3).cells
     have Hb3 := Lh hb3
     clear hb3
      ))
   go_ret
   have := Hb2.out.size
   have := Hb3.out.size
   exact ⟨(sizeTs ys1 + 1) + (sizeTs ys2 + 1), by omega, by simp, HB1.out.trans ((Hb2.out.trans ((Hb3.out.trans (Hb4.out.mono (by omega))).mono (by omega))).mono hz1)⟩
theorem size11_any (c : Cl) (v : Value) (B : Nat) (w : World) (hr : Rd w B (encCl c) v) (hz : sizeC c ≤ 2000000) (hB : B ≤ w.heap.size) :
 Calls Try.prog 17 #[v] w (NatRes 8000000000000 w) := by
 obtain ⟨A, cp, rfl, hc, hn, hm⟩ := Rd.cl_form hr
 have hlz := len_le_sizeC c
 have H3 := Lh hr
 clear hr
 go_enter Try.func17, Try.ntmps17
 go_wp2_with fail
 go_loopw [3, 4] (fun n i wr => ∃ k m : Nat, k ≤ c.length ∧ i = .int .i64 k ∧ n = .int .i64 m ∧ m ≤ k * 4000000 ∧ Below w.heap.size w wr) (fun _ i _ => c.length - (intOf i).toNat)
 case atStart => exact ⟨0, 0, Nat.zero_le _, rfl, rfl, by omega, Below.refl _ _⟩
 obtain ⟨k, m, hk, rfl, rfl, hmk, hbel⟩ := hrel
 have Hbel := Lh hbel
 clear hbel
 by_cases hlt : k < c.length
 · have hmem := sizeC_mem hlt
   obtain ⟨ab, off, n0, f1, ys1, A1, c1, f2, ys2, A2, c2, rfl, hxk, hb, k0, k1, k2, k3, k4, hr1, hr2⟩ := (H3.out.low Hbel.out hB).lt_at hlt
   have hcl := lit11_any c[k] (.agg #[.bool n0, .int .i64 f1, .slice A1 ys1.length c1, .int .i64 f2, .slice A2 ys2.length c2]) B wr (by rw [hxk]; exact ⟨A1, c1, A2, c2, rfl, hr1, hr2⟩) (by omega) (by have := Hbel.out.size; omega)
   have Hcl := Lh hcl
   clear hxk hr1 hr2 hcl hmem
   go_wp2_with (
    go_at_call 31
    refine Hcl.out.mono ?_
    rintro e w1 ⟨n, hnn, rfl, hb1⟩)
   go_roundw
   case rel => exact ⟨k + 1, m + n, by omega, by go_num, by simp, by omega, Hbel.out.trans (hb1.mono Hbel.out.size)⟩
   case measure => simp [intOf]; omega
 go_wp2_with fail
 go_ret
 exact ⟨m, by omega, rfl, Hbel.out⟩
theorem great_any (cs : List Cl) (v : Value) (B : Nat) (w : World) (hr : Rd w B (encCls cs) v) (hz : ∀ c ∈ cs, sizeC c ≤ 2000000) (hB : B ≤ w.heap.size) :
 Calls Try.prog 6 #[v] w (SomeBool w) := by
 obtain ⟨A, cp, rfl, hc, hn, hm⟩ := Rd.row_form (show Rd w B (.sl 1 (cs.map fun c => [encCl c])) v from hr)
 have H3 := Lh hr
 clear hr
 go_enter Try.func6, Try.ntmps6
 go_wp2_with fail
 go_loopw [3, 4] (fun n i wr => ∃ k m : Nat, k ≤ cs.length ∧ i = .int .i64 k ∧ n = .int .i64 m ∧ m ≤ 140737488351232 + 8000000000000 ∧ Below w.heap.size w wr) (fun _ i _ => cs.length - (intOf i).toNat)
 case atStart => exact ⟨0, cs.length, Nat.zero_le _, rfl, rfl, by omega, Below.refl _ _⟩
 obtain ⟨k, m, hk, rfl, rfl, hmk, hbel⟩ := hrel
 have Hbel := Lh hbel
 clear hbel
 by_cases hlt : k < cs.length
 · by_cases hgt : m ≤ 3000
   · have hgt' : (m : Int) ≤ 3000 := by omega
     obtain ⟨ab, off, A1, c1, rfl, hb, k0, hr1⟩ := (H3.out.low Hbel.out hB).cl_at hlt
     have hcl := size11_any cs[k] _ B wr hr1 (hz _ (List.getElem_mem hlt)) (by have := Hbel.out.size; omega)
     have Hcl := Lh hcl
     clear hr1 hcl
     go_wp2_with (
      go_at_call 17
      refine Hcl.out.mono ?_
      rintro e w1 ⟨n, hnn, rfl, hb1⟩)
     go_roundw
     case rel => exact ⟨k + 1, m + n, by omega, by go_num, by simp, by omega, Hbel.out.trans (hb1.mono Hbel.out.size)⟩
     case measure => simp [intOf]; omega
   have hgt' : ¬ ((m : Int) ≤ 3000) := by omega
   go_wp2_with fail
   go_ret
   exact ⟨_, rfl, Hbel.out⟩
 go_wp2_with fail
 go_ret
 exact ⟨_, rfl, Hbel.out⟩
theorem wr64 (z : Int) (h : -9223372036854775808 ≤ z ∧ z ≤ 9223372036854775807) : IntKind.i64.wrap z = z := IntWalk.i64_in _ (by omega)
theorem great29_any (ps : List Sp) (v : Value) (B : Nat) (w : World) (hr : Rd w B (encSps ps) v) (hz : ∀ s ∈ ps, sizeC s.clause ≤ 2000000) (hB : B ≤ w.heap.size) :
 Calls Try.prog 7 #[v] w (SomeBool w) := by
 obtain ⟨A, cp, rfl, hc, hn, hm⟩ := Rd.row_form (show Rd w B (.sl 6 (ps.map encSp)) v from hr)
 have H3 := Lh hr
 have Hz := Lh hz
 clear hr hz
 go_enter Try.func7, Try.ntmps7
 go_upto_region 3 with fail
 go_loopw [3, 4] (fun n i wr => ∃ k m : Nat, k ≤ ps.length ∧ i = .int .i64 k ∧ n = .int .i64 m ∧ m ≤ 1000000000000000 ∧ Below w.heap.size w wr) (fun _ i _ => ps.length - (intOf i).toNat)
 case atStart => exact ⟨0, 0, Nat.zero_le _, rfl, rfl, by omega, Below.refl _ _⟩
 obtain ⟨k, m, hk, rfl, rfl, hmk, hbel⟩ := hrel
 have Hbel := Lh hbel
 have hzr := hbel.size
 clear hbel
 by_cases hlt : k < ps.length
 · by_cases h300 : (k : Int) ≤ 300
   · by_cases hgt : (m : Int) ≤ 20000
     · obtain ⟨pb, po, u1, u2, u3, u4, u5, rfl, hpb, -, p1, p2, p3, p4, p5, hsn⟩ := (H3.out.low Hbel.out hB).sp_at hlt
       have hzc := Hz.out _ (List.getElem_mem hlt)
       obtain ⟨s, hs⟩ : ∃ s, ps[k] = s := ⟨_, rfl⟩
       rw [hs] at hsn hzc
       obtain ⟨A1, c1, A2, c2, A3, c3, A4, c4, A5, c5, rfl, rfl, rfl, rfl, rfl, n1, n2, n3, n4, n5⟩ := hsn.forms
       have hcl := hsn.clause
       have Hcl := Lh hcl
       have P1 := Lh p1
       have P2 := Lh p2
       have P3 := Lh p3
       have P4 := Lh p4
       have P5 := Lh p5
       have hkp : ¬ ((ps.length : Int) ≤ (k : Int)) := by omega
       clear hsn hcl p1 p2 p3 p4 p5 hs
       obtain ⟨wo, hwo⟩ : ∃ wo : World, wo = wr := ⟨_, rfl⟩
       subst hwo
       go_upto_region 5 with fail
       refine rg 30 (fun _ w' => Below wo.heap.size wo w') ?_
       intro wd hwd hbd
       refine ⟨?_, fun hS => ?_⟩
       · exact hwd ▸ hbd
       refine ta 0 (.int .i64 (m : Nat)) hS fun hS => ?_
       refine ta 1 (.slice (some ⟨pb, po, none⟩) ps.length cp) hS fun hS => ?_
       refine ta 2 (.int .i64 (k : Nat)) hS fun hS => ?_
       refine tk 3 (.pointer (some ⟨pb, po + k * 6, none⟩)) hS ?_ fun hS => ?_
       · intros; simp [execOp, go_sem, hlt, hkp]
       refine ta 4 (.pointer (some ⟨pb, po + k * 6 + 1, none⟩)) hS fun hS => ?_
       refine tk 5 (.slice A1 s.parents.length c1) hS ?_ fun hS => ?_
       · intro w' L hn hw
         have q1 := (hw.cell (p := ⟨pb, po + k * 6 + 1, none⟩) (show pb < wo.heap.size by omega)).trans P1.out
         simp [execOp, go_sem, q1]
       refine ta 6 (.int .i64 (s.parents.length : Nat)) hS fun hS => ?_
       refine tk 7 (.int .i64 ((m : Int) + (s.parents.length : Int))) hS ?_ fun hS => ?_
       · intros; simp [execOp, go_sem, wr64 ((m : Int) + (s.parents.length : Int)) (by omega)]
       refine ta 8 (.slice (some ⟨pb, po, none⟩) ps.length cp) hS fun hS => ?_
       refine ta 9 (.int .i64 (k : Nat)) hS fun hS => ?_
       refine tk 10 (.pointer (some ⟨pb, po + k * 6, none⟩)) hS ?_ fun hS => ?_
       · intros; simp [execOp, go_sem, hlt, hkp]
       refine ta 11 (.pointer (some ⟨pb, po + k * 6 + 2, none⟩)) hS fun hS => ?_
       refine tk 12 (.slice A2 s.lits.length c2) hS ?_ fun hS => ?_
       · intro w' L hn hw
         have q2 := (hw.cell (p := ⟨pb, po + k * 6 + 2, none⟩) (show pb < wo.heap.size by omega)).trans P2.out
         simp [execOp, go_sem, q2]
       refine ta 13 (.int .i64 (s.lits.length : Nat)) hS fun hS => ?_
       refine tk 14 (.int .i64 ((m : Int) + (s.parents.length : Int) + (s.lits.length : Int))) hS ?_ fun hS => ?_
       · intros; simp [execOp, go_sem, wr64 ((m : Int) + (s.parents.length : Int) + (s.lits.length : Int)) (by omega)]
       refine ta 15 (.slice (some ⟨pb, po, none⟩) ps.length cp) hS fun hS => ?_
       refine ta 16 (.int .i64 (k : Nat)) hS fun hS => ?_
       refine tk 17 (.pointer (some ⟨pb, po + k * 6, none⟩)) hS ?_ fun hS => ?_
       · intros; simp [execOp, go_sem, hlt, hkp]
       refine ta 18 (.pointer (some ⟨pb, po + k * 6 + 3, none⟩)) hS fun hS => ?_
       refine tk 19 (.slice A3 s.right.length c3) hS ?_ fun hS => ?_
       · intro w' L hn hw
         have q3 := (hw.cell (p := ⟨pb, po + k * 6 + 3, none⟩) (show pb < wo.heap.size by omega)).trans P3.out
         simp [execOp, go_sem, q3]
       refine ta 20 (.int .i64 (s.right.length : Nat)) hS fun hS => ?_
       refine tk 21 (.int .i64 ((m : Int) + (s.parents.length : Int) + (s.lits.length : Int) + (s.right.length : Int))) hS ?_ fun hS => ?_
       · intros; simp [execOp, go_sem, wr64 ((m : Int) + (s.parents.length : Int) + (s.lits.length : Int) + (s.right.length : Int)) (by omega)]
       refine ta 22 (.slice (some ⟨pb, po, none⟩) ps.length cp) hS fun hS => ?_
       refine ta 23 (.int .i64 (k : Nat)) hS fun hS => ?_
       refine tk 24 (.pointer (some ⟨pb, po + k * 6, none⟩)) hS ?_ fun hS => ?_
       · intros; simp [execOp, go_sem, hlt, hkp]
       refine ta 25 (.pointer (some ⟨pb, po + k * 6 + 4, none⟩)) hS fun hS => ?_
       refine tk 26 (.slice A4 s.pos.length c4) hS ?_ fun hS => ?_
       · intro w' L hn hw
         have q4 := (hw.cell (p := ⟨pb, po + k * 6 + 4, none⟩) (show pb < wo.heap.size by omega)).trans P4.out
         simp [execOp, go_sem, q4]
       refine ta 27 (.int .i64 (s.pos.length : Nat)) hS fun hS => ?_
       refine tk 28 (.int .i64 ((m : Int) + (s.parents.length : Int) + (s.lits.length : Int) + (s.right.length : Int) + (s.pos.length : Int))) hS ?_ fun hS => ?_
       · intros; simp [execOp, go_sem, wr64 ((m : Int) + (s.parents.length : Int) + (s.lits.length : Int) + (s.right.length : Int) + (s.pos.length : Int)) (by omega)]
       refine ta 29 (.int .i64 ((m : Int) + (s.parents.length : Int) + (s.lits.length : Int) + (s.right.length : Int) + (s.pos.length : Int))) hS fun hS => ?_
       refine dn ?_
       have HS := Lh hS
       clear hS
       obtain ⟨m1, hm1⟩ : ∃ m1 : Nat, (m : Int) + (s.parents.length : Int) + (s.lits.length : Int) + (s.right.length : Int) + (s.pos.length : Int) = (m1 : Int) := ⟨m + s.parents.length + s.lits.length + s.right.length + s.pos.length, by omega⟩
       rw [hm1]
       have hm1b : m1 ≤ 1000000000000000 := by omega
       clear hm1
       go_upto_region 7 with fail
       go_loopw [3, 5] (fun n i wr => ∃ k2 m2 : Nat, k2 ≤ s.clause.length ∧ i = .int .i64 k2 ∧ n = .int .i64 m2 ∧ m2 ≤ 1000000000000000 ∧ Below wo.heap.size wo wr) (fun _ i _ => s.clause.length - (intOf i).toNat)
       case atStart => exact ⟨0, m1, Nat.zero_le _, rfl, rfl, hm1b, HS.out⟩
       obtain ⟨k2, m2, hk2, rfl, rfl, hmk2, hbel2⟩ := hrel
       have Hbel2 := Lh hbel2
       have hz2 := hbel2.size
       clear hbel2
       have q5 := (Hbel2.out.cell (p := ⟨pb, po + k * 6 + 5, none⟩) (show pb < wo.heap.size by omega)).trans P5.out
       by_cases hl2 : k2 < s.clause.length
       · by_cases hg2 : (m2 : Int) ≤ 20000
         · go_upto_region 9 with fail
           have hmem := sizeC_mem hl2
           obtain ⟨ab, off, n0, f1, ys1, B1, d1, f2, ys2, B2, d2, rfl, hxk, hab, k0, j1, j2, j3, j4, hr1, hr2⟩ := (Hcl.out.low Hbel2.out (by omega)).lt_at hl2
           rw [hxk] at hmem
           simp only [sizeL, sizeT] at hmem
           have HR1 := Lh hr1
           have HR2 := Lh hr2
           have J1 := Lh j1
           have J2 := Lh j2
           have J3 := Lh j3
           have J4 := Lh j4
           have Q5 := Lh q5
           have hkk : ¬ ((s.clause.length : Int) ≤ (k2 : Int)) := by omega
           clear hxk k0 hr1 hr2 j1 j2 j3 j4 q5
           refine rg 24 (fun _ w' => Below wr.heap.size wr w') ?_
           intro wd hwd hbd
           refine ⟨?_, fun hS => ?_⟩
           · exact hwd ▸ hbd
           refine ta 0 (.int .i64 (m2 : Nat)) hS fun hS => ?_
           refine ta 1 (.slice (some ⟨pb, po, none⟩) ps.length cp) hS fun hS => ?_
           refine ta 2 (.int .i64 (k : Nat)) hS fun hS => ?_
           refine tk 3 (.pointer (some ⟨pb, po + k * 6, none⟩)) hS ?_ fun hS => ?_
           · intros; simp [execOp, go_sem, hlt, hkp]
           refine ta 4 (.pointer (some ⟨pb, po + k * 6 + 5, none⟩)) hS fun hS => ?_
           refine tk 5 (.slice (some ⟨ab, off, none⟩) s.clause.length c5) hS ?_ fun hS => ?_
           · intro w' L hn hw
             have q5 := (hw.cell (p := ⟨pb, po + k * 6 + 5, none⟩) (show pb < wr.heap.size by omega)).trans Q5.out
             simp [execOp, go_sem, q5]
           refine ta 6 (.int .i64 (k2 : Nat)) hS fun hS => ?_
           refine tk 7 (.pointer (some ⟨ab, off + k2 * 5, none⟩)) hS ?_ fun hS => ?_
           · intros; simp [execOp, go_sem, hl2, hkk]
           refine ta 8 (.pointer (some ⟨ab, off + k2 * 5 + 1, none⟩)) hS fun hS => ?_
           refine tk 9 (.agg #[.int .i64 f1, .slice B1 ys1.length d1]) hS ?_ fun hS => ?_
           · intro w' L hn hw
             have q1 := (hw.cell (p := ⟨ab, off + k2 * 5 + 1, none⟩) (show ab < wr.heap.size by omega)).trans J1.out
             have q2 := (hw.cell (p := ⟨ab, off + k2 * 5 + 2, none⟩) (show ab < wr.heap.size by omega)).trans J2.out
             simp [execOp, go_sem, q1, q2]
           refine ta 12 (.slice (some ⟨pb, po, none⟩) ps.length cp) hS fun hS => ?_
           refine ta 13 (.int .i64 (k : Nat)) hS fun hS => ?_
           refine tk 14 (.pointer (some ⟨pb, po + k * 6, none⟩)) hS ?_ fun hS => ?_
           · intros; simp [execOp, go_sem, hlt, hkp]
           refine ta 15 (.pointer (some ⟨pb, po + k * 6 + 5, none⟩)) hS fun hS => ?_
           refine tk 16 (.slice (some ⟨ab, off, none⟩) s.clause.length c5) hS ?_ fun hS => ?_
           · intro w' L hn hw
             have q5 := (hw.cell (p := ⟨pb, po + k * 6 + 5, none⟩) (show pb < wr.heap.size by omega)).trans Q5.out
             simp [execOp, go_sem, q5]
           refine ta 17 (.int .i64 (k2 : Nat)) hS fun hS => ?_
           refine tk 18 (.pointer (some ⟨ab, off + k2 * 5, none⟩)) hS ?_ fun hS => ?_
           · intros; simp [execOp, go_sem, hl2, hkk]
           refine ta 19 (.pointer (some ⟨ab, off + k2 * 5 + 3, none⟩)) hS fun hS => ?_
           refine tk 20 (.agg #[.int .i64 f2, .slice B2 ys2.length d2]) hS ?_ fun hS => ?_
           · intro w' L hn hw
             have q3 := (hw.cell (p := ⟨ab, off + k2 * 5 + 3, none⟩) (show ab < wr.heap.size by omega)).trans J3.out
             have q4 := (hw.cell (p := ⟨ab, off + k2 * 5 + 4, none⟩) (show ab < wr.heap.size by omega)).trans J4.out
             simp [execOp, go_sem, q3, q4]
           refine so 10 ?_
           have hbd4 : Below wr.heap.size wr wd := hwd ▸ hbd
           have hzd : wd.heap.size = wr.heap.size := by rw [hwd]
           refine wp_enter ?_ (size2_any (sizeTs ys1 + 1) f1 ys1 _ B wd (by omega) (by omega) (HR1.out.low hbd4 (by omega)) (by omega)) ?_
           · simp [execOp, resolve, invoke, go_sem]
           rintro e w6 ⟨rfl, hb6⟩
           refine ⟨_, rfl, ?_⟩
           refine gS ?_ fun hS => ?_
           · exact hS.trans (hb6.mono hS.size)
           refine tk 11 (.int .i64 ((m2 : Int) + (sizeTs ys1 + 1 : Nat))) hS ?_ fun hS => ?_
           · intros; simp [execOp, go_sem, wr64 ((m2 : Int) + ((sizeTs ys1 : Int) + 1)) (by omega)]
           refine so 21 ?_
           have hz6 := hb6.size
           refine wp_enter ?_ (size2_any (sizeTs ys2 + 1) f2 ys2 _ B w6 (by omega) (by omega) (HR2.out.low (hbd4.trans (hb6.mono (by omega))) (by omega)) (by omega)) ?_
           · simp [execOp, resolve, invoke, go_sem]
           rintro e w7 ⟨rfl, hb7⟩
           refine ⟨_, rfl, ?_⟩
           refine gS ?_ fun hS => ?_
           · exact hS.trans (hb7.mono hS.size)
           refine tk 22 (.int .i64 ((m2 : Int) + (sizeTs ys1 + 1 : Nat) + (sizeTs ys2 + 1 : Nat))) hS ?_ fun hS => ?_
           · intros; simp [execOp, go_sem, wr64 ((m2 : Int) + ((sizeTs ys1 : Int) + 1) + ((sizeTs ys2 : Int) + 1)) (by omega)]
           refine ta 23 (.int .i64 ((m2 : Int) + (sizeTs ys1 + 1 : Nat) + (sizeTs ys2 + 1 : Nat))) hS fun hS => ?_
           refine dn ?_
           have HS7 := Lh hS
           clear hS hwd hbd hb6 hb7 hbd4 hzd hz6
           go_wp2_with fail
           go_roundw
           case rel => exact ⟨k2 + 1, m2 + (sizeTs ys1 + 1) + (sizeTs ys2 + 1), by omega, by go_num, by simp, by omega, Hbel2.out.trans (HS7.out.mono hz2)⟩
           case measure => simp [intOf]; omega
         go_wp2_with fail
         go_roundw
         case rel => exact ⟨k + 1, m2, by omega, by go_num, rfl, by omega, Hbel.out.trans (Hbel2.out.mono hzr)⟩
         case measure => simp [intOf]; omega
       go_wp2_with fail
       go_roundw
       case rel => exact ⟨k + 1, m2, by omega, by go_num, rfl, by omega, Hbel.out.trans (Hbel2.out.mono hzr)⟩
       case measure => simp [intOf]; omega
     go_wp2_with fail
     all_goals (go_ret; exact ⟨_, rfl, Hbel.out⟩)
   go_wp2_with fail
   all_goals (go_ret; exact ⟨_, rfl, Hbel.out⟩)
 go_wp2_with fail
 all_goals (go_ret; exact ⟨_, rfl, Hbel.out⟩)
theorem flat_at {size : Nat} : ∀ {L : List (List Value)} {k j : Nat}, (∀ r ∈ L, r.length = size) → (h : k < L.length) → (h' : j < L[k].length) → L.flatten[k * size + j]? = some L[k][j]
 | [], k, j, _, h, _ => by simp at h
 | r :: L, 0, j, hl, h, h' => by
   simp only [List.getElem_cons_zero] at h'
   simp only [Nat.zero_mul, Nat.zero_add, List.flatten_cons, List.getElem_cons_zero]
   rw [List.getElem?_append_left h', List.getElem?_eq_getElem h']
 | r :: L, k + 1, j, hl, h, h' => by
   simp only [List.getElem_cons_succ] at h' ⊢
   have hr : r.length = size := hl r (List.mem_cons_self ..)
   rw [List.flatten_cons, List.getElem?_append_right (by rw [hr, Nat.succ_mul]; omega), hr, show (k + 1) * size + j - size = k * size + j by rw [Nat.succ_mul]; omega]
   exact flat_at (fun r hr => hl r (List.mem_cons_of_mem _ hr)) (by simpa using h) h'
def RowRd (w : World) (B : Nat) (r : List Tr) (vs : List Value) : Prop := ∀ j (h : j < r.length) (h' : j < vs.length), Rd w B r[j] vs[j]
theorem rd_flat {w : World} {b size n : Nat} {cs : Array Value} {t : TypeId} {fr : Nat × Nat} {rows : List (List Tr)} {L : List (List Value)} (hb : w.heap[b]? = some (.cells cs t fr)) (hB : b < w.heap.size) (hcs : cs = L.flatten.toArray) (hn : rows.length = n) (hL : L.length = n)
 (hl : ∀ r ∈ rows, r.length = size) (hl2 : ∀ r ∈ L, r.length = size) (hr : ∀ p ∈ rows.zip L, RowRd w w.heap.size p.1 p.2) (hm : n ≤ 1000000) : Rd w w.heap.size (.sl size rows) (.slice (some ⟨b, 0, none⟩) n n) := by
 subst hn
 refine rd_block (us := fun k j => ((L[k]?.getD [])[j]?).getD undef) hb hB hl hm (fun k j hk hj => ?_) (fun k hk j hj => ?_)
 · have hk' : k < L.length := by omega
   have hj' : j < L[k].length := by rw [hl2 _ (List.getElem_mem _)]; exact hj
   rw [hcs, List.getElem?_toArray, flat_at hl2 hk' hj', List.getElem?_eq_getElem hk']
   simp [hj']
 have hk' : k < L.length := by omega
 have hj' : j < L[k].length := by rw [hl2 _ (List.getElem_mem _), ← hl _ (List.getElem_mem hk)]; exact hj
 have := hr (rows[k], L[k]) (by
  have := List.getElem_mem (l := rows.zip L) (n := k) (by simp; omega)
  simpa using this) j hj hj'
 simpa [hk', hj'] using this
end Go.Proofs.Ytiaoabfndnidiaa
