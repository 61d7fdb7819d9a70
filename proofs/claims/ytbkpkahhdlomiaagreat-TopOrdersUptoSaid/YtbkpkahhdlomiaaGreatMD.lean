/-
  Part 4 of the proof over the checker: walks and plain laws.
-/
import Derived.Test.YtbkpkahhdlomiaaGreatMC
import Derived.Test.YtbkpkahhdlomiaaGreatMB
import Derived.Test.YtbkpkahhdlomiaaGreatMA
import Derived.Test.YtbkpkahhdlomiaaGreatProg
set_option maxRecDepth 100000
set_option maxHeartbeats 8000000
set_option linter.unusedSimpArgs false
set_option linter.unusedVariables false
namespace Go.Proofs.YtbkpkahhdlomiaaGreat
open Go.RowKit
theorem upd_putRow {α : Type} [Inhabited α] (enc : α → Value) (w : World) (n g off : Nat) (d0 d : Array α) (os : Array Obj) (hg : g < w.heap.size) (hH : Sort.Holds enc w g off d0) (hs : d.size = d0.size) :
 Upd w (Sort.grow (Sort.putRow enc (Sort.ahead w n) g off d) os) (fun k => k = g) ∧ Sort.Holds enc (Sort.grow (Sort.putRow enc (Sort.ahead w n) g off d) os) g off d := by
 refine ⟨⟨rfl, rfl, rfl, ?_, fun k hk hne => ?_⟩, ?_⟩
 · rw [Sort.size_grow, Sort.size_putRow]; show w.heap.size ≤ _; exact Nat.le_add_right _ _
 · rw [Sort.heap_grow_old _ _ (by rw [Sort.size_putRow]; exact hk)]
   show ((Sort.ahead w n).heap.modify g _)[k]? = w.heap[k]?
   rw [Array.getElem?_modify, if_neg (fun e => hne e.symm)]
   rfl
 refine Sort.holds_grow enc _ os g off d (by rw [Sort.size_putRow]; exact hg) ?_
 exact Sort.holds_putRow enc (Sort.ahead w n) g off d0 d (Sort.holds_ahead enc w n g off d0 hH) hs
theorem icells_holds {l : List Int} {w : World} {base g n c : Nat} (h : Own w base 3 1 (.slice (some ⟨g, 0, none⟩) n c) (icells l)) : Sort.Holds (Value.int .i64) w g 0 l.toArray := by
 intro j hj
 have hj : j < l.length := by simpa using hj
 obtain ⟨g', hA, -, -, hc, hf⟩ := icells_at h hj
 injection hA with hA
 injection hA with hA _ _
 subst hA
 rw [Nat.zero_add, getElem!_pos l.toArray j (by simpa using hj)]
 exact ⟨by simpa using hc, hf⟩
theorem compact_le (zs : List Int) : (Lib.compact zs).length ≤ zs.length := by
 unfold Lib.compact Lib.compactUpTo
 rw [List.length_map]
 exact Nat.le_trans (List.length_filter_le _ _) (by simp)
mutual
def lowG : Tm → Bool
 | .mk f xs => decide (-1000000000 ≤ f) && lowGs xs
def lowGs : List Tm → Bool
 | [] => true
 | x :: xs => lowG x && lowGs xs
end
theorem lowGs_mem : ∀ {xs : List Tm} {x : Tm}, lowGs xs = true → x ∈ xs → lowG x = true
 | y :: ys, x, h, hx => by
   rw [lowGs, Bool.and_eq_true] at h
   rcases List.mem_cons.1 hx with rfl | hx
   · exact h.1
   exact lowGs_mem h.2 hx
theorem lowG_arg {f : Int} {xs : List Tm} {x : Tm} (h : lowG (.mk f xs) = true) (hx : x ∈ xs) : lowG x = true := by
 rw [lowG, Bool.and_eq_true] at h; exact lowGs_mem h.2 hx
theorem lowG_fn {t : Tm} (h : lowG t = true) : -1000000000 ≤ t.fn := by
 obtain ⟨f, xs⟩ := t
 rw [lowG, Bool.and_eq_true, decide_eq_true_iff] at h; exact h.1
def VarsR (t : Tm) (w : World) (e : Ending) (w' : World) : Prop :=
 ∃ (zs : List Int) (A : Option Addr) (c : Nat), e = .returned (.slice A zs.length c) ∧ (∀ x, x ∈ zs ↔ ∃ f ∈ vL t, x = -1 - f) ∧ Below w.heap.size w w' ∧ zs.length ≤ 1000000 ∧
   (zs = [] ∨ ∃ b, A = some ⟨b, 0, none⟩ ∧ ∀ j, j < zs.length → w'.cell? ⟨b, 0 + j, none⟩ = some (.int .i64 (zs.getD j 0)))
theorem vars_any (f : Int) (xs : List Tm) (v2 : Value) (B : Nat) (w : World) (hz : sizeT (.mk f xs) ≤ 1000000) (hlo : lowG (.mk f xs) = true) (hr : Rd w B (.sl 2 (encTms xs)) v2) (hB : B ≤ w.heap.size) :
 Calls Tryz.prog 100 #[.agg #[.int .i64 f, v2]] w (VarsR (.mk f xs) w) := by
 obtain ⟨A, c, rfl, hc, hn, hm⟩ := hr.tm_form
 have HR := Lh hr
 have Hlo := Lh hlo
 clear hr hlo
 go_enter Tryz.func100, Tryz.ntmps100
 go_upto_region 2 with fail
 obtain ⟨hx1, hx2, hB2, hz2⟩ := boxes2 w (.cells #[.int .i64 f, .slice A xs.length c] 32) (.cells #[.slice none 0 0] 36)
 have hx1 : Box2 w.heap.size 32 (.int .i64 f) (.slice A xs.length c) _ := hx1
 have hx2 : Box1 (w.heap.size + 1) 36 (.slice none 0 0) _ := hx2
 generalize (w.alloc (.cells #[.int .i64 f, .slice A xs.length c] 32)).alloc (.cells #[.slice none 0 0] 36) = w2 at hx1 hx2 hB2 hz2 ⊢
 obtain ⟨x10, x11, -⟩ := hx1.cells
 obtain ⟨lb, hlb⟩ : ∃ lb, w.heap.size + 1 = lb := ⟨_, rfl⟩
 rw [hlb] at hx2 ⊢
 have hI2 : VaI lb [] w2 := ⟨.slice none 0 0, hx2, Own.nil _ _ _ _⟩
 have hat : TmAt w2 lb w.heap.size 0 (.mk f xs) := ⟨by omega, A, c, x10, x11, (HR.out.low hB2 hB).more (by omega)⟩
 have hcl : Calls Tryz.prog 53 #[.pointer (some ⟨w.heap.size, 0, none⟩), .func (.func 104) #[] #[.pointer (some ⟨lb, 0, none⟩)]] w2 (StB (VaF lb) (VaI lb) (eaT vaP [] (.mk f xs)) w2) :=
  varsEach_any lb (VaF lb) (VaI lb) (VaF.ok (Nat.le_refl _)) #[.pointer (some ⟨lb, 0, none⟩)] vaP (fun t => lowG t = true) (fun _ _ _ h hx => lowG_arg h hx) VaR VaR.ok 0
  (fun s wq ab off t _ hI hat hz hr => vars1_any lb lb (Nat.le_refl _) s wq ab off t hI hat (lowG_fn hz) hr)
  (sizeTs xs + 1) [] f xs w.heap.size 0 w2 (Nat.lt_succ_self _) (Nat.zero_le _) (by omega) hI2 hat Hlo.out (by unfold VaR; simpa using hz)
 rw [vaP_all, List.nil_append] at hcl
 obtain ⟨l, hl⟩ : ∃ l, (vL (.mk f xs)).map (fun f => -1 - f) = l := ⟨_, rfl⟩
 have hll : l.length ≤ 1000000 := by rw [← hl, List.length_map]; have := vL_len (.mk f xs); omega
 rw [hl] at hcl
 have Hcl := Lh hcl
 have Hl := Lh hl
 have HB2 := Lh hB2
 have HX2 := Lh hx2
 have Hlb := Lh hlb
 have hl2 : w.heap.size < w2.heap.size := by omega
 have hlb2 : lb < w2.heap.size := by omega
 have hlb3 : w.heap.size < lb := by omega
 clear hcl hl hB2 hx1 hx2 hz2 hI2 hat x10 x11 hlb
 go_wp2_with fail
 refine Hcl.out.mono ?_
 rintro e w3 ⟨rfl, hst⟩
 obtain ⟨v, hbx, hown⟩ := hst.st
 have hu3 : Upd w2 w3 (fun k => k = lb) := hst.upd.more (fun k hk => by
  rcases hk with rfl | ⟨v', h1, h2⟩
  · exact .inl rfl
  have e := HX2.out.symm.trans h1
  injection e with e
  injection e with e _ _
  injection e with e
  injection e with e _
  rw [← e] at h2; cases h2)
 have hlow3 : Below w.heap.size w w3 := HB2.out.trans (hu3.toLow (by omega) (by rintro k rfl; omega))
 obtain ⟨av, cv, hv⟩ := icells_form hown
 subst hv
 obtain ⟨hlc, hcm⟩ : l.length ≤ cv ∧ cv ≤ Go.maxLen := by
  obtain ⟨_, _, hv2, hlc, hcm⟩ := hown.form
  injection hv2 with _ _ hv2
  subst hv2
  rw [icells_len] at hlc
  exact ⟨hlc, hcm⟩
 have l3 := hbx.cell
 have HBX := Lh hbx
 have HOWN := Lh hown
 have Hlow3 := Lh hlow3
 have hz3 := hu3.size
 clear hbx hown hst hu3 hlow3
 by_cases hne : l = []
 · have hsz0 : l.length = 0 := by rw [hne]; rfl
   have hnv : vL (.mk f xs) = [] := by
    have := Hl.out
    rw [hne] at this
    exact List.map_eq_nil_iff.1 this
   have Hnv := Lh hnv
   rw [hsz0] at l3
   clear hne hsz0 hnv
   go_wp2_with fail
   refine (Tryz.slices_Sort_int_none av cv w3).mono ?_
   rintro e w4 ⟨rfl, rfl⟩
   go_wp2_with fail
   refine (Tryz.slices_Compact_int_empty av cv w4).mono ?_
   rintro e w5 ⟨rfl, rfl⟩
   go_wp2_with fail
   go_ret
   exact ⟨[], av, cv, rfl, fun x => by rw [Hnv.out]; simp, Hlow3.out, Nat.zero_le _, .inl rfl⟩
 have hpos : 0 < l.length := List.length_pos_iff.2 hne
 obtain ⟨g, hA, hbg, hgl, -, -⟩ := icells_at HOWN.out hpos
 subst hA
 have hH := icells_holds HOWN.out
 have hso := Tryz.slices_Sort_int g 0 cv l w3 hH hgl (by omega)
 have HH := Lh hH
 have Hso := Lh hso
 clear hso hH hne
 go_wp2_with fail
 refine Hso.out.mono ?_
 rintro e w4 ⟨rfl, n, os, rfl⟩
 obtain ⟨s, hs⟩ : ∃ s, l.mergeSort (fun x y => decide (x ≤ y)) = s := ⟨_, rfl⟩
 have hsl : s.length = l.length := by rw [← hs]; exact List.length_mergeSort _
 have hsm : ∀ x, x ∈ s ↔ x ∈ l := fun x => by rw [← hs]; exact List.mem_mergeSort
 rw [hs]
 obtain ⟨hu4, hH4⟩ := upd_putRow (Value.int .i64) w3 n g 0 l.toArray s.toArray os hgl HH.out (by simpa using hsl)
 have l4 := (HBX.out.upd hu4 (by omega)).cell
 generalize Sort.grow (Sort.putRow (Value.int .i64) (Sort.ahead w3 n) g 0 s.toArray) os = w4 at hu4 hH4 l4 ⊢
 have hgl4 : g < w4.heap.size := by have := hu4.size; omega
 have hco := Tryz.slices_Compact_int g 0 cv s w4 hH4 (by omega) (by omega)
 rw [hsl] at hco
 have Hco := Lh hco
 have HH4 := Lh hH4
 have Hu4 := Lh hu4
 have Hsm := Lh hsm
 have Hsl := Lh hsl
 clear hco hH4 hu4 hsm hsl hs l3
 go_wp2_with fail
 refine Hco.out.mono ?_
 rintro e w5 ⟨rfl, q, rfl⟩
 obtain ⟨k, hk⟩ : ∃ k, Lib.compact s = k := ⟨_, rfl⟩
 have hkl : k.length ≤ s.length := by rw [← hk]; exact compact_le s
 have hkm : ∀ x, x ∈ k ↔ x ∈ s := fun x => by rw [← hk]; exact mem_compact s x
 rw [hk]
 have hsl := Hsl.out
 obtain ⟨hu5, hH5⟩ := upd_putRow (Value.int .i64) w4 q g 0 s.toArray (k ++ List.replicate (l.length - k.length) 0).toArray #[] hgl4 HH4.out (by simp; omega)
 rw [Sort.grow_empty] at hu5 hH5
 generalize Sort.putRow (Value.int .i64) (Sort.ahead w4 q) g 0 (k ++ List.replicate (l.length - k.length) 0).toArray = w5 at hu5 hH5 ⊢
 have hlow5 : Below w.heap.size w w5 := Hlow3.out.trans ((Hu4.out.trans hu5 (fun _ e => .inl e)).toLow (by omega) (by rintro b rfl; omega))
 have hcells : ∀ j, j < k.length → w5.cell? ⟨g, 0 + j, none⟩ = some (.int .i64 (k.getD j 0)) := fun j hj => by
  have := (hH5 j (by simp; omega)).1
  rw [this, getElem!_pos _ j (by simp; omega)]
  simp only [List.getElem_toArray]
  rw [List.getElem_append_left hj, List.getD_eq_getElem?_getD, List.getElem?_eq_getElem hj, Option.getD_some]
 have hmem : ∀ x, x ∈ k ↔ ∃ f' ∈ vL (.mk f xs), x = -1 - f' := fun x => by
  rw [hkm, Hsm.out, ← Hl.out, List.mem_map]
  constructor
  · rintro ⟨a, ha, rfl⟩; exact ⟨a, ha, rfl⟩
  rintro ⟨a, ha, rfl⟩; exact ⟨a, ha, rfl⟩
 have Hlow5 := Lh hlow5
 have Hcells := Lh hcells
 have Hmem := Lh hmem
 have Hkl := Lh hkl
 clear hlow5 hcells hmem hkl hkm hk hu5 hH5 l4 hsl
 go_wp2_with fail
 go_ret
 exact ⟨k, _, cv, rfl, Hmem.out, Hlow5.out, by have := Hkl.out; have := Hsl.out; omega, .inr ⟨g, rfl, Hcells.out⟩⟩
theorem contains_vars {zs : List Int} {A : Option Addr} {c : Nat} {w : World} (hl : zs.length ≤ 1000000) (h : zs = [] ∨ ∃ b, A = some ⟨b, 0, none⟩ ∧ ∀ j, j < zs.length → w.cell? ⟨b, 0 + j, none⟩ = some (.int .i64 (zs.getD j 0))) (x : Int) :
 Calls Tryz.prog 99 #[.slice A zs.length c, .int .i64 x] w fun e w' => e = .returned (.bool (zs.contains x)) ∧ w' = w := by
 rcases h with rfl | ⟨b, rfl, hc⟩
 · exact Tryz.slices_Contains_int_empty A c x w
 have := Tryz.slices_Contains_int b 0 zs.length c zs x w (Nat.le_refl _) (by omega) hc
 rwa [List.take_length] at this
theorem variable_any {o : Od} {Ls Lt : PL} {wb gm : Nat} {Ap Aw As At : Option Addr} {cp cw cs ct : Nat} (i k : Nat) (f g : Int) (xs ys : List Tm) (w : World) (hz : sizeT (.mk f xs) ≤ 1000000) (hlo : lowG (.mk f xs) = true) (hgl : -1000000000 ≤ g)
 (hs : PartAt Ls i (.mk f xs)) (ht : PartAt Lt k (.mk g ys)) (hwk : Wk o Ls Lt wb gm Ap Aw As At cp cw cs ct w) (hm : Memo o Ls Lt gm w) :
 Calls Tryz.prog 88 #[.pointer (some ⟨wb, 0, none⟩), .int .i64 (i : Nat), .int .i64 (k : Nat)] w (WkR o Ls Lt gm (rVar (.mk f xs) (.mk g ys)) w) := by
 have hcs := hwk.cells
 obtain ⟨x1, x4, x5, x6⟩ := hcs
 obtain ⟨ist, hitt, hpst⟩ : ∃ is, Lt[k]? = some (.mk g ys, is) ∧ PartsAt Lt is ys := by rw [PartAt] at ht; exact ht
 obtain ⟨tb, tq, T1, d1, T2, d2, hAt, hk1, htne, htl, t0, t1, t2, hrt1, hrt2, hnt⟩ := pl_at hwk.t hitt
 subst hAt
 have hk2 : ¬ ((Lt.length : Int) ≤ (k : Int)) := by omega
 obtain ⟨iss, hits, hpss⟩ : ∃ is, Ls[i]? = some (.mk f xs, is) ∧ PartsAt Ls is xs := by rw [PartAt] at hs; exact hs
 obtain ⟨sb, sq, S1, e1, S2, e2, hAs, hi1, hsne, hsl, s0, s1, s2, hrs1, hrs2, hns⟩ := pl_at hwk.s hits
 subst hAs
 have hi2 : ¬ ((Ls.length : Int) ≤ (i : Int)) := by omega
 have hwl := ltOf hwk.box
 obtain ⟨r, hr⟩ : ∃ r, rVar (.mk f xs) (.mk g ys) = r := ⟨_, rfl⟩
 rw [hr]
 have hr : (∃ d : Decidable (g < 0 ∧ g ∈ vL (.mk f xs)), @decide _ d = r) := ⟨_, hr⟩
 have Hr := Lh hr
 have Hm := Lh hm
 have Hrs1 := Lh hrs1
 have Hlo := Lh hlo
 have X4 := Lh x4
 have S0c := Lh s0
 have S1c := Lh s1
 clear hs ht hwk hm hpss hpst hrs1 hrs2 hrt1 hrt2 hitt hits hr hlo x1 x4 x6 s0 s1 s2 t2
 go_enter Tryz.func88, Tryz.ntmps88
 go_upto_region 2 with fail
 obtain ⟨bt, hbt⟩ : ∃ bt, w.heap.size = bt := ⟨_, rfl⟩
 have hb1 : (w.alloc (.cells #[.int .i64 g, .slice T1 ys.length d1] 32)).heap[w.heap.size]? = _ := heap_alloc_new w (.cells #[.int .i64 g, .slice T1 ys.length d1] 32)
 have hb1 : BoxN w.heap.size 32 #[.int .i64 g, .slice T1 ys.length d1] _ := hb1
 have hB1 := below_box w (.cells #[.int .i64 g, .slice T1 ys.length d1] 32)
 have hz1 : w.heap.size < (w.alloc (.cells #[.int .i64 g, .slice T1 ys.length d1] 32)).heap.size := by simp
 generalize w.alloc (.cells #[.int .i64 g, .slice T1 ys.length d1] 32) = w1 at hb1 hB1 hz1 ⊢
 rw [hbt] at hb1
 rw [hbt]
 have g0 := hb1.cell 0
 have HB1 := Lh hB1
 have HX1 := Lh hb1
 have Hbt := Lh hbt
 have hbl : bt < w1.heap.size := by omega
 have G0 := Lh g0
 clear t0 t1 hB1 hb1 g0 hbt
 by_cases hg : g < 0
 · obtain ⟨x, hx⟩ : ∃ x, -1 - g = x := ⟨_, rfl⟩
   have hgw : IntKind.i64.wrap (-1 - g) = x := by rw [← hx]; exact wr64 _ (by omega)
   have Hx := Lh hx
   clear hx
   refine rg 19 (fun _ w' => Below w1.heap.size w1 w') ?_
   intro wd hwd hbd
   refine ⟨?_, fun hS => ?_⟩
   · exact hwd ▸ hbd
   refine ta 0 (.pointer (some ⟨bt, 0, none⟩)) hS fun hS => ?_
   refine tk 1 (.int .i64 g) hS ?_ fun hS => ?_
   · intro w' L hn hw
     have q0 := (hw.cell (p := ⟨bt, 0, none⟩) hbl).trans G0.out
     simp [execOp, go_sem, q0]
   refine tk 2 (.bool true) hS ?_ fun hS => ?_
   · intros; simp [execOp, go_sem, hg]
   refine ta 3 (.bool true) hS fun hS => ?_
   refine ta 4 (.pointer (some ⟨wb, 0, none⟩)) hS fun hS => ?_
   refine ta 5 (.pointer (some ⟨wb, 0, none⟩)) hS fun hS => ?_
   refine ta 6 (.pointer (some ⟨wb, 4, none⟩)) hS fun hS => ?_
   refine tk 7 (.slice (some ⟨sb, sq, none⟩) Ls.length cs) hS ?_ fun hS => ?_
   · intro w' L hn hw
     have q4 := ((HB1.out.trans (hw.mono HB1.out.size)).cell (p := ⟨wb, 4, none⟩) hwl).trans X4.out
     simp [execOp, go_sem, q4]
   refine ta 8 (.int .i64 (i : Nat)) hS fun hS => ?_
   refine tk 9 (.pointer (some ⟨sb, sq + i * 3, none⟩)) hS ?_ fun hS => ?_
   · intros; simp [execOp, go_sem, hi1, hi2]
   refine ta 10 (.pointer (some ⟨sb, sq + i * 3, none⟩)) hS fun hS => ?_
   refine tk 11 (.agg #[.int .i64 f, .slice S1 xs.length e1]) hS ?_ fun hS => ?_
   · intro w' L hn hw
     have p0 := ((HB1.out.trans (hw.mono HB1.out.size)).cell (p := ⟨sb, sq + i * 3, none⟩) hsl).trans S0c.out
     have p1 := ((HB1.out.trans (hw.mono HB1.out.size)).cell (p := ⟨sb, sq + i * 3 + 1, none⟩) hsl).trans S1c.out
     simp [execOp, go_sem, p0, p1]
   refine ta 13 (.pointer (some ⟨bt, 0, none⟩)) hS fun hS => ?_
   refine tk 14 (.int .i64 g) hS ?_ fun hS => ?_
   · intro w' L hn hw
     have q0 := (hw.cell (p := ⟨bt, 0, none⟩) hbl).trans G0.out
     simp [execOp, go_sem, q0]
   refine tk 15 (.int .i64 x) hS ?_ fun hS => ?_
   · intros; simp [execOp, go_sem, hgw]
   refine so 12 ?_
   have hlow := HB1.out.trans (hS.mono HB1.out.size)
   refine wp_enter (by simp [execOp, go_sem]) (vars_any f xs (.slice S1 xs.length e1) wd.heap.size wd hz Hlo.out (Hrs1.out.upd (Upd.low hlow (fun j => j = gm)) (fun b hb _ => hb)).rd' (Nat.le_refl _)) ?_
   rintro e w7 ⟨zs, A, c, rfl, hmem, hlow7, hlen, hcells⟩
   refine ⟨_, rfl, ?_⟩
   have hzr : zs.contains x = r := by
    obtain ⟨d, hd⟩ := Hr.out
    rw [← hd, List.contains_eq_mem]
    refine decide_eq_decide.2 ?_
    rw [hmem]
    constructor
    · rintro ⟨f', hf', e⟩
      have e : f' = g := by have := Hx.out; omega
      rw [← e]
      exact ⟨by omega, hf'⟩
    rintro ⟨-, h⟩
    exact ⟨g, h, Hx.out.symm⟩
   refine gS ?_ fun hS => ?_
   · exact hS.trans (hlow7.mono hS.size)
   refine so 16 ?_
   have hcv := contains_vars (c := c) hlen hcells x
   rw [hzr] at hcv
   refine wp_enter (by simp [execOp, go_sem]) hcv ?_
   rintro e w8 ⟨rfl, rfl⟩
   refine ⟨_, rfl, ?_⟩
   refine gS ?_ fun hS => ?_
   · exact hS
   refine ta 17 (.bool r) hS fun hS => ?_
   refine ta 18 (.bool r) hS fun hS => ?_
   refine dn ?_
   have HSz := Lh hS
   clear hS hcells hlow7 hmem hwd hbd
   go_wp2_with fail
   go_ret
   have hlow := HB1.out.trans (HSz.out.mono HB1.out.size)
   exact ⟨rfl, Upd.low hlow _, Hm.out.low hlow⟩
 have hf : r = false := by
  obtain ⟨d, hd⟩ := Hr.out
  rw [← hd]
  exact decide_eq_false (fun h => hg h.1)
 subst hf
 have hg2 : 0 ≤ g := by omega
 refine bu 19 (fun w' => Below w1.heap.size w1 w') (fun wd hwd hbd => ?_) ?_
 · exact hwd ▸ hbd
 refine pu 0 (.pointer (some ⟨bt, 0, none⟩)) ?_
 refine ru 1 (.int .i64 g) (fun w' hw => ?_) ?_
 · have q0 := (hw.cell (p := ⟨bt, 0, none⟩) hbl).trans G0.out
   simp [execOp, go_sem, q0]
 refine ru 2 (.bool false) (fun w' hw => ?_) ?_
 · simp [execOp, go_sem, hg2]
 refine pu 3 (.bool false) ?_
 refine su 4 ?_
 refine su 5 ?_
 refine su 6 ?_
 refine su 7 ?_
 refine su 8 ?_
 refine su 9 ?_
 refine su 10 ?_
 refine su 11 ?_
 refine su 12 ?_
 refine su 13 ?_
 refine su 14 ?_
 refine su 15 ?_
 refine su 16 ?_
 refine pu 17 (.bool false) ?_
 refine pu 18 (.bool false) ?_
 refine du (fun wz hS => ?_)
 have HSz := Lh hS
 clear hS
 go_wp2_with fail
 go_ret
 have hlow := HB1.out.trans (HSz.out.mono HB1.out.size)
 exact ⟨rfl, Upd.low hlow _, Hm.out.low hlow⟩
theorem memo_at {w : World} {gm : Nat} {Kn : Int × Int → Option Bool} (h : MapF w gm prV (fun p => (Kn p).map Value.bool)) (a b : Int) {v : Bool} {ok : Bool} (hv : (Kn (a, b)).getD false = v) (hk : (Kn (a, b)).isSome = ok) :
 (Instr.lookup 119 (.map (some gm)) (.agg #[.int .i64 a, .int .i64 b]) true).run Tryz.prog w = .ok (.tuple #[.bool v, .bool ok]) w := by
 have := h.lookup_ok prK Tryz.underlying119 (zeroB w) (a, b)
 rw [Option.isSome_map, hk] at this
 have e : ((Kn (a, b)).map Value.bool).getD (.bool false) = .bool v := by rw [← hv]; cases Kn (a, b) <;> rfl
 rw [e] at this
 exact this
theorem partAt_one {L : PL} {i : Nat} {s t : Tm} (h1 : PartAt L i s) (h2 : PartAt L i t) : s = t := by
 obtain ⟨f, xs⟩ := s
 obtain ⟨g, ys⟩ := t
 rw [PartAt] at h1 h2
 obtain ⟨is, e1, -⟩ := h1
 obtain ⟨is', e2, -⟩ := h2
 rw [e1] at e2
 injection e2 with e2
 injection e2
theorem memo_put {o : Od} {Ls Lt : PL} {gm i k : Nat} {s t : Tm} {b : Bool} {Kn3 : Int × Int → Option Bool} {w4 : World} (hm4 : MapF w4 gm prV (fun y => if y = ((i : Int), (k : Int)) then some (.bool b) else (Kn3 y).map Value.bool))
 (hs3 : ∀ (i k : Nat) (b : Bool), Kn3 ((i : Int), (k : Int)) = some b → ∀ s t, PartAt Ls i s → PartAt Lt k t → b = lgt o.kp.pr s t) (h1 : PartAt Ls i s) (h2 : PartAt Lt k t) (hb : b = lgt o.kp.pr s t) : Memo o Ls Lt gm w4 := by
 refine ⟨fun p => if p = ((i : Int), (k : Int)) then some b else Kn3 p, hm4.congr (fun p => ?_), fun i' k' b' h s' t' q1 q2 => ?_⟩
 · dsimp only
   by_cases e : p = ((i : Int), (k : Int))
   · rw [if_pos e, if_pos e]; rfl
   rw [if_neg e, if_neg e]
 dsimp only at h
 by_cases e : ((i' : Int), (k' : Int)) = ((i : Int), (k : Int))
 · rw [if_pos e] at h
   injection e with e1 e2
   have e1 : i' = i := by omega
   have e2 : k' = k := by omega
   subst e1 e2
   rw [partAt_one q1 h1, partAt_one q2 h2, ← hb]
   injection h with h
   exact h.symm
 rw [if_neg e] at h
 exact hs3 i' k' b' h s' t' q1 q2
theorem above_step {ar : Int → Option Nat} {o : Od} (hkn : Knows ar o) {Ls Lt : PL} {wb gm : Nat} {Ap Aw As At : Option Addr} {cp cw cs ct : Nat} (hLs : ∀ i s, PartAt Ls i s → sizeT s ≤ 1000000 ∧ lowG s = true) (hLt : ∀ i s, PartAt Lt i s → lowG s = true) {D : Nat}
 (hab : AbvH ar o Ls Lt wb gm Ap Aw As At cp cw cs ct D (WkR o Ls Lt gm)) : AbvH ar o Ls Lt wb gm Ap Aw As At cp cw cs ct (D + 1) (WkR o Ls Lt gm) := by
 intro i k s t w hD hs ht hws hwt hwk hm
 obtain ⟨f, xs⟩ := s
 obtain ⟨g, ys⟩ := t
 have hD : sizeT (.mk f xs) + sizeT (.mk g ys) ≤ D := by omega
 obtain ⟨hz, hlo⟩ := hLs i _ hs
 have hgl : -1000000000 ≤ g := lowG_fn (hLt k _ ht)
 obtain ⟨r, hr⟩ : ∃ r, lgt o.kp.pr (.mk f xs) (.mk g ys) = r := ⟨_, rfl⟩
 rw [hr]
 have Hr := Lh hr
 have hmm := hm
 obtain ⟨Kn, hmap, hsnd⟩ := hmm
 obtain ⟨v, hv⟩ : ∃ v, (Kn ((i : Int), (k : Int))).getD false = v := ⟨_, rfl⟩
 obtain ⟨ok, hok⟩ : ∃ ok, (Kn ((i : Int), (k : Int))).isSome = ok := ⟨_, rfl⟩
 have hfnd : ok = true → v = r := by
  intro e
  rw [e] at hok
  obtain ⟨b, hb⟩ := Option.isSome_iff_exists.1 hok
  have := hsnd i k b hb _ _ hs ht
  rw [hb] at hv
  rw [← hr, ← this]
  exact hv.symm
 have Hfnd := Lh hfnd
 have Hhs := Lh hs
 have Hht := Lh ht
 have hcs := hwk.cells
 obtain ⟨x1, x4, x5, x6⟩ := hcs
 obtain ⟨ist, hitt, hpst⟩ : ∃ is, Lt[k]? = some (.mk g ys, is) ∧ PartsAt Lt is ys := by rw [PartAt] at ht; exact ht
 obtain ⟨tb, tq, T1, d1, T2, d2, hAt, hk1, htne, htl, t0, t1, t2, hrt1, hrt2, hnt⟩ := pl_at hwk.t hitt
 subst hAt
 have hk2 : ¬ ((Lt.length : Int) ≤ (k : Int)) := by omega
 obtain ⟨iss, hits, hpss⟩ : ∃ is, Ls[i]? = some (.mk f xs, is) ∧ PartsAt Ls is xs := by rw [PartAt] at hs; exact hs
 obtain ⟨sb, sq, S1, e1, S2, e2, hAs, hi1, hsne, hsl, s0, s1, s2, hrs1, hrs2, hns⟩ := pl_at hwk.s hits
 subst hAs
 have hi2 : ¬ ((Ls.length : Int) ≤ (i : Int)) := by omega
 have hwl := ltOf hwk.box
 have hgm := hm.lt
 have hne := hwk.ne
 have Hne := Lh hne
 have Hm := Lh hm
 have Hwk := Lh hwk
 have X4 := Lh x4
 have X6 := Lh x6
 have S0c := Lh s0
 have Hab := Lh hab
 have Hws := Lh hws
 have Hwt := Lh hwt
 have Hlo := Lh hlo
 have Hmap := Lh hmap
 have Hkv := Lh (And.intro hv hok)
 clear hfnd hs ht hwk hm hpss hpst hrs1 hrs2 hrt1 hrt2 hitt hits hr hlo x1 x4 x5 x6 s0 s1 s2 t0 t1 t2 hab hws hwt hmap hsnd hv hok hLs hLt hne
 go_enter Tryz.func77, Tryz.ntmps77
 go_upto_region 2 with fail
 obtain ⟨bt, hbt⟩ : ∃ bt, w.heap.size = bt := ⟨_, rfl⟩
 have hb1 : (w.alloc (.cells #[.int .i64 (i : Nat), .int .i64 (k : Nat)] 136)).heap[w.heap.size]? = _ := heap_alloc_new w (.cells #[.int .i64 (i : Nat), .int .i64 (k : Nat)] 136)
 have hb1 : BoxN w.heap.size 136 #[.int .i64 (i : Nat), .int .i64 (k : Nat)] _ := hb1
 have hB1 := below_box w (.cells #[.int .i64 (i : Nat), .int .i64 (k : Nat)] 136)
 have hz1 : w.heap.size < (w.alloc (.cells #[.int .i64 (i : Nat), .int .i64 (k : Nat)] 136)).heap.size := by simp
 generalize w.alloc (.cells #[.int .i64 (i : Nat), .int .i64 (k : Nat)] 136) = w1 at hb1 hB1 hz1 ⊢
 rw [hbt] at hb1
 rw [hbt]
 have g0 := hb1.cell 0
 have g1 := hb1.cell 1
 have HB1 := Lh hB1
 have HX1 := Lh hb1
 have Hbt := Lh hbt
 have hbl : bt < w1.heap.size := by omega
 have hbg : bt ≠ gm := by omega
 have G0 := Lh g0
 have G1 := Lh g1
 have Hlk := Lh (fun (w' : World) (hw : Below w1.heap.size w1 w') => memo_at (Hmap.out.low (HB1.out.trans (hw.mono HB1.out.size))) (i : Nat) (k : Nat) Hkv.out.1 Hkv.out.2)
 clear hB1 hb1 g0 g1 hbt
 refine bu 11 (fun w' => Below w1.heap.size w1 w') (fun wd hwd hbd => ?_) ?_
 · exact hwd ▸ hbd
 refine pu 0 (.pointer (some ⟨wb, 0, none⟩)) ?_
 refine pu 1 (.pointer (some ⟨wb, 0, none⟩)) ?_
 refine pu 2 (.pointer (some ⟨wb, 6, none⟩)) ?_
 refine ru 3 (.map (some gm)) (fun w' hw => ?_) ?_
 · have q6 := ((HB1.out.trans (hw.mono HB1.out.size)).cell (p := ⟨wb, 6, none⟩) hwl).trans X6.out
   simp [execOp, go_sem, q6]
 refine ru 4 (.agg #[.int .i64 (i : Nat), .int .i64 (k : Nat)]) (fun w' hw => ?_) ?_
 · have q0 := (hw.cell (p := ⟨bt, 0, none⟩) hbl).trans G0.out
   have q1 := (hw.cell (p := ⟨bt, 1, none⟩) hbl).trans G1.out
   simp [execOp, go_sem, q0, q1]
 refine ru 5 (.tuple #[.bool v, .bool ok]) (fun w' hw => ?_) ?_
 · have ql := Hlk.out w' hw
   simp [execOp, go_sem, ql]
 refine pu 6 (.tuple #[.bool v, .bool ok]) ?_
 refine pu 7 (.bool v) ?_
 refine pu 8 (.bool ok) ?_
 refine pu 9 (.bool v) ?_
 refine pu 10 (.bool ok) ?_
 refine du (fun wz hS => ?_)
 have HSz := Lh hS
 clear hS
 cases ok with
 | true =>
   have hf : v = r := Hfnd.out rfl
   have Hf := Lh hf
   clear hf
   go_wp2_with fail
   go_ret
   have hlow := HB1.out.trans (HSz.out.mono HB1.out.size)
   exact ⟨by rw [Hf.out]; rfl, Upd.low hlow _, Hm.out.low hlow⟩
 | false =>
   have hlowz : Below w.heap.size w wz := HB1.out.trans (HSz.out.mono HB1.out.size)
   have q4 := (hlowz.cell (p := ⟨wb, 4, none⟩) hwl).trans X4.out
   have p0 := (hlowz.cell (p := ⟨sb, sq + i * 3, none⟩) hsl).trans S0c.out
   have hzz := hlowz.size
   have hz2 := HSz.out.size
   have Hlowz := Lh hlowz
   have q4 : wz.cell? ⟨wb, 4, none⟩ = some (.slice (some ⟨sb, sq, none⟩) Ls.length cs) := q4
   have p0 : wz.cell? ⟨sb, sq + i * 3, none⟩ = some (.int .i64 f) := p0
   clear hlowz
   by_cases hf : f < 0
   · have hrf : r = false := by rw [← Hr.out, lgt, if_pos hf]
     have Hf := Lh hrf
     clear hrf
     go_wp2_with fail
     go_ret
     exact ⟨by rw [Hf.out]; rfl, Upd.low Hlowz.out _, Hm.out.low Hlowz.out⟩
   obtain ⟨fi, rfl⟩ : ∃ fi : Nat, f = (fi : Int) := ⟨f.toNat, by omega⟩
   have hf2 : 0 ≤ (fi : Int) := by omega
   have hor := lgt_or o.kp.pr hf2 (xs := xs) (.mk g ys)
   rw [Hr.out] at hor
   have c0 := fun (w' : World) (hu : Upd w w' (fun b => b = gm)) (hm : Memo o Ls Lt gm w') => variable_any i k (fi : Nat) g xs ys w' hz Hlo.out hgl Hhs.out Hht.out (Hwk.out.upd hu) hm
   have c1 := fun (w' : World) (hu : Upd w w' (fun b => b = gm)) (hm : Memo o Ls Lt gm w') => within_any Hab.out i k (fi : Nat) g xs ys w' hD Hhs.out Hht.out Hws.out Hwt.out (Hwk.out.upd hu) hm
   have c2 := fun (w' : World) (hu : Upd w w' (fun b => b = gm)) (hm : Memo o Ls Lt gm w') => ranked_any hkn Hab.out i k fi g xs ys w' hD Hhs.out Hht.out Hws.out Hwt.out (Hwk.out.upd hu) hm
   have c3 := fun (w' : World) (hu : Upd w w' (fun b => b = gm)) (hm : Memo o Ls Lt gm w') => lexical_any Hab.out i k (fi : Nat) g xs ys w' hD hf2 Hhs.out Hht.out Hws.out Hwt.out (Hwk.out.upd hu) hm
   generalize rVar (.mk (fi : Nat) xs) (.mk g ys) = b0 at hor c0
   generalize rIn o.kp.pr (.mk (fi : Nat) xs) (.mk g ys) = b1 at hor c1
   generalize rRank o.kp.pr (.mk (fi : Nat) xs) (.mk g ys) = b2 at hor c2
   generalize rLex o.kp.pr (.mk (fi : Nat) xs) (.mk g ys) = b3 at hor c3
   have C0 := Lh c0
   have C1 := Lh c1
   have C2 := Lh c2
   have C3 := Lh c3
   have Hor := Lh hor
   clear c0 c1 c2 c3 hor
   go_wp2_with fail
   obtain ⟨fb, hfb⟩ : ∃ fb, wz.heap.size = fb := ⟨_, rfl⟩
   have hb2 : (wz.alloc (.cells #[.func (.func 88) #[.pointer (some ⟨wb, 0, none⟩)] #[], .func (.func 89) #[.pointer (some ⟨wb, 0, none⟩)] #[], .func (.func 90) #[.pointer (some ⟨wb, 0, none⟩)] #[], .func (.func 91) #[.pointer (some ⟨wb, 0, none⟩)] #[]] 122)).heap[wz.heap.size]? = _ := heap_alloc_new wz (.cells #[.func (.func 88) #[.pointer (some ⟨wb, 0, none⟩)] #[], .func (.func 89) #[.pointer (some ⟨wb, 0, none⟩)] #[], .func (.func 90) #[.pointer (some ⟨wb, 0, none⟩)] #[], .func (.func 91) #[.pointer (some ⟨wb, 0, none⟩)] #[]] 122)
   have hb2 : BoxN wz.heap.size 122 #[.func (.func 88) #[.pointer (some ⟨wb, 0, none⟩)] #[], .func (.func 89) #[.pointer (some ⟨wb, 0, none⟩)] #[], .func (.func 90) #[.pointer (some ⟨wb, 0, none⟩)] #[], .func (.func 91) #[.pointer (some ⟨wb, 0, none⟩)] #[]] _ := hb2
   have hB2 := below_box wz (.cells #[.func (.func 88) #[.pointer (some ⟨wb, 0, none⟩)] #[], .func (.func 89) #[.pointer (some ⟨wb, 0, none⟩)] #[], .func (.func 90) #[.pointer (some ⟨wb, 0, none⟩)] #[], .func (.func 91) #[.pointer (some ⟨wb, 0, none⟩)] #[]] 122)
   have hzf : wz.heap.size < (wz.alloc (.cells #[.func (.func 88) #[.pointer (some ⟨wb, 0, none⟩)] #[], .func (.func 89) #[.pointer (some ⟨wb, 0, none⟩)] #[], .func (.func 90) #[.pointer (some ⟨wb, 0, none⟩)] #[], .func (.func 91) #[.pointer (some ⟨wb, 0, none⟩)] #[]] 122)).heap.size := by simp
   generalize wz.alloc (.cells #[.func (.func 88) #[.pointer (some ⟨wb, 0, none⟩)] #[], .func (.func 89) #[.pointer (some ⟨wb, 0, none⟩)] #[], .func (.func 90) #[.pointer (some ⟨wb, 0, none⟩)] #[], .func (.func 91) #[.pointer (some ⟨wb, 0, none⟩)] #[]] 122) = w2 at hb2 hB2 hzf ⊢
   rw [hfb] at hb2
   rw [hfb]
   have hlow2 : Below w.heap.size w w2 := Hlowz.out.trans (hB2.mono hzz)
   have hx12 : BoxN bt 136 #[.int .i64 (i : Nat), .int .i64 (k : Nat)] w2 := HX1.out.low ((HSz.out).trans (hB2.mono hz2))
   have HB2 := Lh hb2
   have Hlow2 := Lh hlow2
   have HX2 := Lh hx12
   have hfbl : fb < w2.heap.size := by omega
   have hfg : fb ≠ gm := by omega
   have hbl2 : bt < w2.heap.size := by omega
   clear hb2 hB2 hlow2 hx12 q4 p0 hfb
   go_loopw [10, 47] (fun q c wr => ∃ j : Nat, j ≤ 4 ∧ q = .bool false ∧ c = .int .i64 j ∧ (∀ m, m < j → (if m = 0 then b0 else if m = 1 then b1 else if m = 2 then b2 else b3) = false) ∧ Upd w2 wr (fun b => b = gm) ∧ Memo o Ls Lt gm wr) (fun _ c _ => 4 - (intOf c).toNat)
   case atStart => exact ⟨0, by omega, rfl, rfl, fun m h => by omega, Upd.refl _ _, Hm.out.low Hlow2.out⟩
   obtain ⟨j, hj, rfl, rfl, hall, hur, hmr⟩ := hrel
   have hzr := hur.size
   have hu0 : Upd w wr (fun b => b = gm) := (Upd.low Hlow2.out _).trans hur (fun _ e => .inl e)
   have HU0 := Lh hu0
   have Hur := Lh hur
   have Hmr := Lh hmr
   have Hall := Lh hall
   have F0 := keepC hur hfg hfbl (HB2.out.cell 0)
   have F1 := keepC hur hfg hfbl (HB2.out.cell 1)
   have F2 := keepC hur hfg hfbl (HB2.out.cell 2)
   have F3 := keepC hur hfg hfbl (HB2.out.cell 3)
   clear hall hur hmr hu0
   rcases (by omega : j = 0 ∨ j = 1 ∨ j = 2 ∨ j = 3 ∨ j = 4) with rfl | rfl | rfl | rfl | rfl
   · go_wp2_with fail
     refine (C0.out wr HU0.out Hmr.out).mono ?_
     rintro e w3 ⟨rfl, hu3, hm3⟩
     have Hur3 := Lh (Hur.out.trans hu3 (fun _ e => .inl e))
     have Hu3 := Lh (HU0.out.trans hu3 (fun _ e => .inl e))
     have Hm3 := Lh hm3
     have hz3 := hu3.size
     clear hu3 hm3 F0 F1 F2 F3
     cases b0 with
     | true =>
       have hf : r = true := by rw [Hor.out]; simp
       have Hf := Lh hf
       clear hf
       have hlb3 := ltOf (HX2.out.upd Hur3.out hbg)
       have E0 := keepC Hur3.out hbg hbl2 (HX2.out.cell 0)
       have E1 := keepC Hur3.out hbg hbl2 (HX2.out.cell 1)
       have E6 := keepC Hu3.out Hne.out hwl X6.out
       have hwl3 : wb < w3.heap.size := by have := Hu3.out.size; omega
       obtain ⟨Kn3, hk3, hs3⟩ := Hm3.out
       have E0 := Lh E0
       have E1 := Lh E1
       have E6 := Lh E6
       have HK3 := Lh hk3
       have HS3 := Lh hs3
       clear hk3 hs3
       go_upto_region 14 with fail
       refine rg 7 (fun L w' => L.getD 6 false = false → Below w3.heap.size w3 w') ?_
       intro wd hwd hbd
       refine ⟨?_, fun hS => ?_⟩
       · exact fun _ => hwd ▸ hbd
       refine ta 0 (.pointer (some ⟨wb, 0, none⟩)) hS (fun hS => ?_) (hins := fun L w => by simp only [flag_ne (l := L) (i := 0) (k := 6) (by decide)])
       refine ta 1 (.pointer (some ⟨wb, 0, none⟩)) hS (fun hS => ?_) (hins := fun L w => by simp only [flag_ne (l := L) (i := 1) (k := 6) (by decide)])
       refine tk 2 (.pointer (some ⟨wb, 6, none⟩)) hS ?_ (fun hS => ?_) (hins := fun L w => by simp only [flag_ne (l := L) (i := 2) (k := 6) (by decide)])
       · intro w' L hn hw
         have n6 := hn.flag 6 (by kernel_rfl)
         simp [execOp, go_sem]
       refine tk 3 (.map (some gm)) hS ?_ (fun hS => ?_) (hins := fun L w => by simp only [flag_ne (l := L) (i := 3) (k := 6) (by decide)])
       · intro w' L hn hw
         have n6 := hn.flag 6 (by kernel_rfl)
         have q6 := ((hw n6).cell (p := ⟨wb, 6, none⟩) hwl3).trans E6.out
         simp [execOp, go_sem, q6]
       refine tk 4 (.agg #[.int .i64 (i : Nat), .int .i64 (k : Nat)]) hS ?_ (fun hS => ?_) (hins := fun L w => by simp only [flag_ne (l := L) (i := 4) (k := 6) (by decide)])
       · intro w' L hn hw
         have n6 := hn.flag 6 (by kernel_rfl)
         have q0 := ((hw n6).cell (p := ⟨bt, 0, none⟩) hlb3).trans E0.out
         have q1 := ((hw n6).cell (p := ⟨bt, 1, none⟩) hlb3).trans E1.out
         simp [execOp, go_sem, q0, q1]
       refine ta 5 (.bool true) hS (fun hS => ?_) (hins := fun L w => by simp only [flag_ne (l := L) (i := 5) (k := 6) (by decide)])
       refine sl 6 ?_
       have hb6 := hS rfl
       refine wpList_mapStore rfl (.tmp 59) (.tmp 60) (.tmp 61) rfl prK Tryz.underlying119 (by simp [go_sem]) ((i : Int), (k : Int)) (by simp [go_sem, prV]) (.bool true) (by simp [go_sem]) (HK3.out.low hb6) ?_
       intro w4 hm4 hu4
       refine gL ?_ fun hS => ?_
       · exact fun h => (by cases h)
       refine dn ?_
       have hfin : Upd w w4 (fun b => b = gm) := (Hu3.out.trans (Upd.low hb6 (fun b => b = gm)) (fun _ e => .inl e)).trans hu4 (fun _ e => .inl e)
       have hmem : Memo o Ls Lt gm w4 := memo_put hm4 HS3.out Hhs.out Hht.out (Hf.out.symm.trans Hr.out.symm)
       have Hfin := Lh hfin
       have Hmem := Lh hmem
       clear hfin hmem hS hm4 hu4 hb6 hwd hbd
       go_wp2_with fail
       go_ret
       exact ⟨by rw [Hf.out]; rfl, Hfin.out, Hmem.out⟩
     | false =>
       go_wp2_with fail
       go_roundw
       case rel =>
        refine ⟨0 + 1, by omega, rfl, by go_num, fun m hm => ?_, Hur3.out, Hm3.out⟩
        have := Hall.out m
        rcases (by omega : m < 0 ∨ m = 0) with h | h
        · exact this h
        subst h; rfl
       case measure => simp [intOf]
   · go_wp2_with fail
     refine (C1.out wr HU0.out Hmr.out).mono ?_
     rintro e w3 ⟨rfl, hu3, hm3⟩
     have Hur3 := Lh (Hur.out.trans hu3 (fun _ e => .inl e))
     have Hu3 := Lh (HU0.out.trans hu3 (fun _ e => .inl e))
     have Hm3 := Lh hm3
     have hz3 := hu3.size
     clear hu3 hm3 F0 F1 F2 F3
     cases b1 with
     | true =>
       have hf : r = true := by rw [Hor.out]; simp
       have Hf := Lh hf
       clear hf
       have hlb3 := ltOf (HX2.out.upd Hur3.out hbg)
       have E0 := keepC Hur3.out hbg hbl2 (HX2.out.cell 0)
       have E1 := keepC Hur3.out hbg hbl2 (HX2.out.cell 1)
       have E6 := keepC Hu3.out Hne.out hwl X6.out
       have hwl3 : wb < w3.heap.size := by have := Hu3.out.size; omega
       obtain ⟨Kn3, hk3, hs3⟩ := Hm3.out
       have E0 := Lh E0
       have E1 := Lh E1
       have E6 := Lh E6
       have HK3 := Lh hk3
       have HS3 := Lh hs3
       clear hk3 hs3
       go_upto_region 14 with fail
       refine rg 7 (fun L w' => L.getD 6 false = false → Below w3.heap.size w3 w') ?_
       intro wd hwd hbd
       refine ⟨?_, fun hS => ?_⟩
       · exact fun _ => hwd ▸ hbd
       refine ta 0 (.pointer (some ⟨wb, 0, none⟩)) hS (fun hS => ?_) (hins := fun L w => by simp only [flag_ne (l := L) (i := 0) (k := 6) (by decide)])
       refine ta 1 (.pointer (some ⟨wb, 0, none⟩)) hS (fun hS => ?_) (hins := fun L w => by simp only [flag_ne (l := L) (i := 1) (k := 6) (by decide)])
       refine tk 2 (.pointer (some ⟨wb, 6, none⟩)) hS ?_ (fun hS => ?_) (hins := fun L w => by simp only [flag_ne (l := L) (i := 2) (k := 6) (by decide)])
       · intro w' L hn hw
         have n6 := hn.flag 6 (by kernel_rfl)
         simp [execOp, go_sem]
       refine tk 3 (.map (some gm)) hS ?_ (fun hS => ?_) (hins := fun L w => by simp only [flag_ne (l := L) (i := 3) (k := 6) (by decide)])
       · intro w' L hn hw
         have n6 := hn.flag 6 (by kernel_rfl)
         have q6 := ((hw n6).cell (p := ⟨wb, 6, none⟩) hwl3).trans E6.out
         simp [execOp, go_sem, q6]
       refine tk 4 (.agg #[.int .i64 (i : Nat), .int .i64 (k : Nat)]) hS ?_ (fun hS => ?_) (hins := fun L w => by simp only [flag_ne (l := L) (i := 4) (k := 6) (by decide)])
       · intro w' L hn hw
         have n6 := hn.flag 6 (by kernel_rfl)
         have q0 := ((hw n6).cell (p := ⟨bt, 0, none⟩) hlb3).trans E0.out
         have q1 := ((hw n6).cell (p := ⟨bt, 1, none⟩) hlb3).trans E1.out
         simp [execOp, go_sem, q0, q1]
       refine ta 5 (.bool true) hS (fun hS => ?_) (hins := fun L w => by simp only [flag_ne (l := L) (i := 5) (k := 6) (by decide)])
       refine sl 6 ?_
       have hb6 := hS rfl
       refine wpList_mapStore rfl (.tmp 59) (.tmp 60) (.tmp 61) rfl prK Tryz.underlying119 (by simp [go_sem]) ((i : Int), (k : Int)) (by simp [go_sem, prV]) (.bool true) (by simp [go_sem]) (HK3.out.low hb6) ?_
       intro w4 hm4 hu4
       refine gL ?_ fun hS => ?_
       · exact fun h => (by cases h)
       refine dn ?_
       have hfin : Upd w w4 (fun b => b = gm) := (Hu3.out.trans (Upd.low hb6 (fun b => b = gm)) (fun _ e => .inl e)).trans hu4 (fun _ e => .inl e)
       have hmem : Memo o Ls Lt gm w4 := memo_put hm4 HS3.out Hhs.out Hht.out (Hf.out.symm.trans Hr.out.symm)
       have Hfin := Lh hfin
       have Hmem := Lh hmem
       clear hfin hmem hS hm4 hu4 hb6 hwd hbd
       go_wp2_with fail
       go_ret
       exact ⟨by rw [Hf.out]; rfl, Hfin.out, Hmem.out⟩
     | false =>
       go_wp2_with fail
       go_roundw
       case rel =>
        refine ⟨1 + 1, by omega, rfl, by go_num, fun m hm => ?_, Hur3.out, Hm3.out⟩
        have := Hall.out m
        rcases (by omega : m < 1 ∨ m = 1) with h | h
        · exact this h
        subst h; rfl
       case measure => simp [intOf]
   · go_wp2_with fail
     refine (C2.out wr HU0.out Hmr.out).mono ?_
     rintro e w3 ⟨rfl, hu3, hm3⟩
     have Hur3 := Lh (Hur.out.trans hu3 (fun _ e => .inl e))
     have Hu3 := Lh (HU0.out.trans hu3 (fun _ e => .inl e))
     have Hm3 := Lh hm3
     have hz3 := hu3.size
     clear hu3 hm3 F0 F1 F2 F3
     cases b2 with
     | true =>
       have hf : r = true := by rw [Hor.out]; simp
       have Hf := Lh hf
       clear hf
       have hlb3 := ltOf (HX2.out.upd Hur3.out hbg)
       have E0 := keepC Hur3.out hbg hbl2 (HX2.out.cell 0)
       have E1 := keepC Hur3.out hbg hbl2 (HX2.out.cell 1)
       have E6 := keepC Hu3.out Hne.out hwl X6.out
       have hwl3 : wb < w3.heap.size := by have := Hu3.out.size; omega
       obtain ⟨Kn3, hk3, hs3⟩ := Hm3.out
       have E0 := Lh E0
       have E1 := Lh E1
       have E6 := Lh E6
       have HK3 := Lh hk3
       have HS3 := Lh hs3
       clear hk3 hs3
       go_upto_region 14 with fail
       refine rg 7 (fun L w' => L.getD 6 false = false → Below w3.heap.size w3 w') ?_
       intro wd hwd hbd
       refine ⟨?_, fun hS => ?_⟩
       · exact fun _ => hwd ▸ hbd
       refine ta 0 (.pointer (some ⟨wb, 0, none⟩)) hS (fun hS => ?_) (hins := fun L w => by simp only [flag_ne (l := L) (i := 0) (k := 6) (by decide)])
       refine ta 1 (.pointer (some ⟨wb, 0, none⟩)) hS (fun hS => ?_) (hins := fun L w => by simp only [flag_ne (l := L) (i := 1) (k := 6) (by decide)])
       refine tk 2 (.pointer (some ⟨wb, 6, none⟩)) hS ?_ (fun hS => ?_) (hins := fun L w => by simp only [flag_ne (l := L) (i := 2) (k := 6) (by decide)])
       · intro w' L hn hw
         have n6 := hn.flag 6 (by kernel_rfl)
         simp [execOp, go_sem]
       refine tk 3 (.map (some gm)) hS ?_ (fun hS => ?_) (hins := fun L w => by simp only [flag_ne (l := L) (i := 3) (k := 6) (by decide)])
       · intro w' L hn hw
         have n6 := hn.flag 6 (by kernel_rfl)
         have q6 := ((hw n6).cell (p := ⟨wb, 6, none⟩) hwl3).trans E6.out
         simp [execOp, go_sem, q6]
       refine tk 4 (.agg #[.int .i64 (i : Nat), .int .i64 (k : Nat)]) hS ?_ (fun hS => ?_) (hins := fun L w => by simp only [flag_ne (l := L) (i := 4) (k := 6) (by decide)])
       · intro w' L hn hw
         have n6 := hn.flag 6 (by kernel_rfl)
         have q0 := ((hw n6).cell (p := ⟨bt, 0, none⟩) hlb3).trans E0.out
         have q1 := ((hw n6).cell (p := ⟨bt, 1, none⟩) hlb3).trans E1.out
         simp [execOp, go_sem, q0, q1]
       refine ta 5 (.bool true) hS (fun hS => ?_) (hins := fun L w => by simp only [flag_ne (l := L) (i := 5) (k := 6) (by decide)])
       refine sl 6 ?_
       have hb6 := hS rfl
       refine wpList_mapStore rfl (.tmp 59) (.tmp 60) (.tmp 61) rfl prK Tryz.underlying119 (by simp [go_sem]) ((i : Int), (k : Int)) (by simp [go_sem, prV]) (.bool true) (by simp [go_sem]) (HK3.out.low hb6) ?_
       intro w4 hm4 hu4
       refine gL ?_ fun hS => ?_
       · exact fun h => (by cases h)
       refine dn ?_
       have hfin : Upd w w4 (fun b => b = gm) := (Hu3.out.trans (Upd.low hb6 (fun b => b = gm)) (fun _ e => .inl e)).trans hu4 (fun _ e => .inl e)
       have hmem : Memo o Ls Lt gm w4 := memo_put hm4 HS3.out Hhs.out Hht.out (Hf.out.symm.trans Hr.out.symm)
       have Hfin := Lh hfin
       have Hmem := Lh hmem
       clear hfin hmem hS hm4 hu4 hb6 hwd hbd
       go_wp2_with fail
       go_ret
       exact ⟨by rw [Hf.out]; rfl, Hfin.out, Hmem.out⟩
     | false =>
       go_wp2_with fail
       go_roundw
       case rel =>
        refine ⟨2 + 1, by omega, rfl, by go_num, fun m hm => ?_, Hur3.out, Hm3.out⟩
        have := Hall.out m
        rcases (by omega : m < 2 ∨ m = 2) with h | h
        · exact this h
        subst h; rfl
       case measure => simp [intOf]
   · go_wp2_with fail
     refine (C3.out wr HU0.out Hmr.out).mono ?_
     rintro e w3 ⟨rfl, hu3, hm3⟩
     have Hur3 := Lh (Hur.out.trans hu3 (fun _ e => .inl e))
     have Hu3 := Lh (HU0.out.trans hu3 (fun _ e => .inl e))
     have Hm3 := Lh hm3
     have hz3 := hu3.size
     clear hu3 hm3 F0 F1 F2 F3
     cases b3 with
     | true =>
       have hf : r = true := by rw [Hor.out]; simp
       have Hf := Lh hf
       clear hf
       have hlb3 := ltOf (HX2.out.upd Hur3.out hbg)
       have E0 := keepC Hur3.out hbg hbl2 (HX2.out.cell 0)
       have E1 := keepC Hur3.out hbg hbl2 (HX2.out.cell 1)
       have E6 := keepC Hu3.out Hne.out hwl X6.out
       have hwl3 : wb < w3.heap.size := by have := Hu3.out.size; omega
       obtain ⟨Kn3, hk3, hs3⟩ := Hm3.out
       have E0 := Lh E0
       have E1 := Lh E1
       have E6 := Lh E6
       have HK3 := Lh hk3
       have HS3 := Lh hs3
       clear hk3 hs3
       go_upto_region 14 with fail
       refine rg 7 (fun L w' => L.getD 6 false = false → Below w3.heap.size w3 w') ?_
       intro wd hwd hbd
       refine ⟨?_, fun hS => ?_⟩
       · exact fun _ => hwd ▸ hbd
       refine ta 0 (.pointer (some ⟨wb, 0, none⟩)) hS (fun hS => ?_) (hins := fun L w => by simp only [flag_ne (l := L) (i := 0) (k := 6) (by decide)])
       refine ta 1 (.pointer (some ⟨wb, 0, none⟩)) hS (fun hS => ?_) (hins := fun L w => by simp only [flag_ne (l := L) (i := 1) (k := 6) (by decide)])
       refine tk 2 (.pointer (some ⟨wb, 6, none⟩)) hS ?_ (fun hS => ?_) (hins := fun L w => by simp only [flag_ne (l := L) (i := 2) (k := 6) (by decide)])
       · intro w' L hn hw
         have n6 := hn.flag 6 (by kernel_rfl)
         simp [execOp, go_sem]
       refine tk 3 (.map (some gm)) hS ?_ (fun hS => ?_) (hins := fun L w => by simp only [flag_ne (l := L) (i := 3) (k := 6) (by decide)])
       · intro w' L hn hw
         have n6 := hn.flag 6 (by kernel_rfl)
         have q6 := ((hw n6).cell (p := ⟨wb, 6, none⟩) hwl3).trans E6.out
         simp [execOp, go_sem, q6]
       refine tk 4 (.agg #[.int .i64 (i : Nat), .int .i64 (k : Nat)]) hS ?_ (fun hS => ?_) (hins := fun L w => by simp only [flag_ne (l := L) (i := 4) (k := 6) (by decide)])
       · intro w' L hn hw
         have n6 := hn.flag 6 (by kernel_rfl)
         have q0 := ((hw n6).cell (p := ⟨bt, 0, none⟩) hlb3).trans E0.out
         have q1 := ((hw n6).cell (p := ⟨bt, 1, none⟩) hlb3).trans E1.out
         simp [execOp, go_sem, q0, q1]
       refine ta 5 (.bool true) hS (fun hS => ?_) (hins := fun L w => by simp only [flag_ne (l := L) (i := 5) (k := 6) (by decide)])
       refine sl 6 ?_
       have hb6 := hS rfl
       refine wpList_mapStore rfl (.tmp 59) (.tmp 60) (.tmp 61) rfl prK Tryz.underlying119 (by simp [go_sem]) ((i : Int), (k : Int)) (by simp [go_sem, prV]) (.bool true) (by simp [go_sem]) (HK3.out.low hb6) ?_
       intro w4 hm4 hu4
       refine gL ?_ fun hS => ?_
       · exact fun h => (by cases h)
       refine dn ?_
       have hfin : Upd w w4 (fun b => b = gm) := (Hu3.out.trans (Upd.low hb6 (fun b => b = gm)) (fun _ e => .inl e)).trans hu4 (fun _ e => .inl e)
       have hmem : Memo o Ls Lt gm w4 := memo_put hm4 HS3.out Hhs.out Hht.out (Hf.out.symm.trans Hr.out.symm)
       have Hfin := Lh hfin
       have Hmem := Lh hmem
       clear hfin hmem hS hm4 hu4 hb6 hwd hbd
       go_wp2_with fail
       go_ret
       exact ⟨by rw [Hf.out]; rfl, Hfin.out, Hmem.out⟩
     | false =>
       go_wp2_with fail
       go_roundw
       case rel =>
        refine ⟨3 + 1, by omega, rfl, by go_num, fun m hm => ?_, Hur3.out, Hm3.out⟩
        have := Hall.out m
        rcases (by omega : m < 3 ∨ m = 3) with h | h
        · exact this h
        subst h; rfl
       case measure => simp [intOf]
   have hf : r = false := by
    rw [Hor.out]
    have h0 := Hall.out 0 (by omega)
    have h1 := Hall.out 1 (by omega)
    have h2 := Hall.out 2 (by omega)
    have h3 := Hall.out 3 (by omega)
    simp at h0 h1 h2 h3
    rw [h0, h1, h2, h3]; rfl
   have Hf := Lh hf
   clear hf F0 F1 F2 F3
   obtain ⟨w3, hw3⟩ : ∃ w3, wr = w3 := ⟨_, rfl⟩
   rw [hw3] at HU0 Hur Hmr ⊢
   have Hu3 := HU0
   have Hur3 := Hur
   have Hm3 := Hmr
   have hlb3 := ltOf (HX2.out.upd Hur3.out hbg)
   have E0 := keepC Hur3.out hbg hbl2 (HX2.out.cell 0)
   have E1 := keepC Hur3.out hbg hbl2 (HX2.out.cell 1)
   have E6 := keepC Hu3.out Hne.out hwl X6.out
   have hwl3 : wb < w3.heap.size := by have := Hu3.out.size; omega
   obtain ⟨Kn3, hk3, hs3⟩ := Hm3.out
   have E0 := Lh E0
   have E1 := Lh E1
   have E6 := Lh E6
   have HK3 := Lh hk3
   have HS3 := Lh hs3
   clear hk3 hs3
   go_upto_region 14 with fail
   refine rg 7 (fun L w' => L.getD 6 false = false → Below w3.heap.size w3 w') ?_
   intro wd hwd hbd
   refine ⟨?_, fun hS => ?_⟩
   · exact fun _ => hwd ▸ hbd
   refine ta 0 (.pointer (some ⟨wb, 0, none⟩)) hS (fun hS => ?_) (hins := fun L w => by simp only [flag_ne (l := L) (i := 0) (k := 6) (by decide)])
   refine ta 1 (.pointer (some ⟨wb, 0, none⟩)) hS (fun hS => ?_) (hins := fun L w => by simp only [flag_ne (l := L) (i := 1) (k := 6) (by decide)])
   refine tk 2 (.pointer (some ⟨wb, 6, none⟩)) hS ?_ (fun hS => ?_) (hins := fun L w => by simp only [flag_ne (l := L) (i := 2) (k := 6) (by decide)])
   · intro w' L hn hw
     have n6 := hn.flag 6 (by kernel_rfl)
     simp [execOp, go_sem]
   refine tk 3 (.map (some gm)) hS ?_ (fun hS => ?_) (hins := fun L w => by simp only [flag_ne (l := L) (i := 3) (k := 6) (by decide)])
   · intro w' L hn hw
     have n6 := hn.flag 6 (by kernel_rfl)
     have q6 := ((hw n6).cell (p := ⟨wb, 6, none⟩) hwl3).trans E6.out
     simp [execOp, go_sem, q6]
   refine tk 4 (.agg #[.int .i64 (i : Nat), .int .i64 (k : Nat)]) hS ?_ (fun hS => ?_) (hins := fun L w => by simp only [flag_ne (l := L) (i := 4) (k := 6) (by decide)])
   · intro w' L hn hw
     have n6 := hn.flag 6 (by kernel_rfl)
     have q0 := ((hw n6).cell (p := ⟨bt, 0, none⟩) hlb3).trans E0.out
     have q1 := ((hw n6).cell (p := ⟨bt, 1, none⟩) hlb3).trans E1.out
     simp [execOp, go_sem, q0, q1]
   refine ta 5 (.bool false) hS (fun hS => ?_) (hins := fun L w => by simp only [flag_ne (l := L) (i := 5) (k := 6) (by decide)])
   refine sl 6 ?_
   have hb6 := hS rfl
   refine wpList_mapStore rfl (.tmp 59) (.tmp 60) (.tmp 61) rfl prK Tryz.underlying119 (by simp [go_sem]) ((i : Int), (k : Int)) (by simp [go_sem, prV]) (.bool false) (by simp [go_sem]) (HK3.out.low hb6) ?_
   intro w4 hm4 hu4
   refine gL ?_ fun hS => ?_
   · exact fun h => (by cases h)
   refine dn ?_
   have hfin : Upd w w4 (fun b => b = gm) := (Hu3.out.trans (Upd.low hb6 (fun b => b = gm)) (fun _ e => .inl e)).trans hu4 (fun _ e => .inl e)
   have hmem : Memo o Ls Lt gm w4 := memo_put hm4 HS3.out Hhs.out Hht.out (Hf.out.symm.trans Hr.out.symm)
   have Hfin := Lh hfin
   have Hmem := Lh hmem
   clear hfin hmem hS hm4 hu4 hb6 hwd hbd
   go_wp2_with fail
   go_ret
   exact ⟨by rw [Hf.out]; rfl, Hfin.out, Hmem.out⟩
theorem wpOp_op {P : Program} {ops : Array Oper} {Q : Exit → Act → World → Prop} {S : Array Bool → World → Prop} (i : Nat) {o : Oper} {fuel : Nat} {listed listed' : Array Bool} {a : Act} {w : World} (ho : ops[i]? = some o) (hl : listed.setIfInBounds i true = listed')
 (hg : Region.wanted o (yielded ops a.tmps) = true) (h : o.wp P a w (fun a' w' => S listed' w' ∧ wpAnyS P ops Q S fuel listed' a' w') Q) :
 wpOp P ops Q i (fun a' w' => S (listed.setIfInBounds i true) w' ∧ wpAnyS P ops Q S fuel (listed.setIfInBounds i true) a' w') a w := by
 subst hl
 unfold wpOp
 simp only [ho, hg, if_true]
 exact .inl h
mutual
theorem layP_sub : ∀ (t : Tm) (n : Nat), ∀ p ∈ layP t n, sizeT p.1 ≤ sizeT t ∧ (lowG t = true → lowG p.1 = true)
 | .mk f xs, n, p, hp => by
   rw [layP] at hp
   rcases List.mem_cons.1 hp with rfl | hp
   · exact ⟨Nat.le_refl _, id⟩
   obtain ⟨h1, h2⟩ := layPs_sub xs (n + 1) p hp
   rw [sizeT]
   refine ⟨by omega, fun h => h2 ?_⟩
   rw [lowG, Bool.and_eq_true] at h
   exact h.2
theorem layPs_sub : ∀ (xs : List Tm) (n : Nat), ∀ p ∈ layPs xs n, sizeT p.1 ≤ sizeTs xs ∧ (lowGs xs = true → lowG p.1 = true)
 | [], n, p, hp => by rw [layPs] at hp; simp at hp
 | x :: xs, n, p, hp => by
   rw [layPs] at hp
   rw [sizeTs, lowGs, Bool.and_eq_true]
   rcases List.mem_append.1 hp with h | h
   · obtain ⟨h1, h2⟩ := layP_sub x n p h
     exact ⟨by omega, fun h => h2 h.1⟩
   obtain ⟨h1, h2⟩ := layPs_sub xs _ p h
   exact ⟨by omega, fun h => h2 h.2⟩
end
theorem partAt_sub {t : Tm} {n i : Nat} {s : Tm} (h : PartAt (layP t n) i s) : sizeT s ≤ sizeT t ∧ (lowG t = true → lowG s = true) := by
 obtain ⟨f, xs⟩ := s
 rw [PartAt] at h
 obtain ⟨is, h, -⟩ := h
 exact layP_sub t n _ (List.mem_of_getElem? h)
theorem abv_any {ar : Int → Option Nat} {o : Od} (hkn : Knows ar o) {Ls Lt : PL} {wb gm : Nat} {Ap Aw As At : Option Addr} {cp cw cs ct : Nat} (hLs : ∀ i s, PartAt Ls i s → sizeT s ≤ 1000000 ∧ lowG s = true) (hLt : ∀ i s, PartAt Lt i s → lowG s = true) :
 ∀ D, AbvH ar o Ls Lt wb gm Ap Aw As At cp cw cs ct D (WkR o Ls Lt gm)
 | 0 => fun i k s t w h => by omega
 | D + 1 => above_step hkn hLs hLt (abv_any hkn hLs hLt D)
def PaA (B : Nat) (t : Tm) (w : World) (e : Ending) (w' : World) : Prop :=
 ∃ A c, e = .returned (.slice A (layP t 0).length c) ∧ Below w.heap.size w w' ∧ RdP w' (fun b => (b < B ∨ w.heap.size ≤ b) ∧ b < w'.heap.size) (encPL (layP t 0)) (.slice A (layP t 0).length c)
theorem partsA_any (B : Nat) (f : Int) (xs : List Tm) (v2 : Value) (w : World) (hz : sizeT (.mk f xs) ≤ 1000000) (hr : Rd w B (.sl 2 (encTms xs)) v2) (hB : B ≤ w.heap.size) :
 Calls Tryz.prog 76 #[.agg #[.int .i64 f, v2], .slice none 0 0] w (PaA B (.mk f xs) w) := by
 have hsz : sizeT (.mk f xs) = 1 + sizeTs xs := by rw [sizeT]; omega
 refine (parts_any B w.heap.size hB (sizeTs xs + 1) f xs v2 (.slice none 0 0) [] w (Nat.lt_succ_self _) (by simp; omega) hr (Own.nil _ _ _ _) (Nat.le_refl _)).mono ?_
 rintro e w' ⟨v', new, rfl, hown, hu, -, hrows⟩
 rw [List.nil_append] at hown
 obtain ⟨A, c, rfl, -, -⟩ := hown.form
 have hl := hrows.1
 rw [List.length_nil] at hl hrows
 have hlen : new.length ≤ 100000000 := by rw [hl, layP_len]; omega
 have hrd := hrows.rd hown hlen
 rw [hl] at hrd ⊢
 refine ⟨A, c, rfl, hu.toLow (Nat.le_refl _) (fun k hk => by cases hk), hrd.more (fun b hb hlt => ⟨?_, hlt⟩)⟩
 rcases hb with (h | h) | h
 · exact .inl h
 · exact .inr h.1
 have := hown.lt b (by rw [← hl] at h; exact h)
 exact .inr this.1
section
variable {ops : Array Oper} {P : Program}
theorem wp_makeMap {Q : Exit → Act → World → Prop} {o : Oper} {K : Act → World → Prop} {a : Act} {W : World} {t : TypeId} (ho : o.op = .makeMap t none) (h : ∀ gm wm, gm = W.heap.size → wm.heap.size = W.heap.size + 1 → Below W.heap.size W wm → MapF wm gm prV (fun _ => none) → K (a.put o.dst (.map (some gm))) wm) : o.wp P a W K Q := by
 refine wp_value (v := .map (some W.heap.size)) (w' := W.alloc (.map #[] 0)) ?_ (h _ _ rfl (by simp) (below_box W _) (MapF.made W prV))
 unfold execOp
 simp only [ho]
 have := run_makeMap (P := P) t W
 simp [this, Sem.run_bind, Result.andThen]
theorem wp_boxed {Q : Exit → Act → World → Prop} {o : Oper} {K : Act → World → Prop} {a : Act} {W : World} {cs : Array Value} {t : TypeId} (h : (execOp a.eval o).run P W = .ok (.value (.pointer (some ⟨W.heap.size, 0, none⟩))) (W.alloc (.cells cs t)))
 (hk : ∀ wb wF, wb = W.heap.size → wF.heap.size = W.heap.size + 1 → Below W.heap.size W wF → BoxN wb t cs wF → K (a.put o.dst (.pointer (some ⟨wb, 0, none⟩))) wF) : o.wp P a W K Q :=
 wp_value h (hk _ _ rfl (by simp) (below_box W _) (heap_alloc_new W _))
end
theorem over_any {ar : Int → Option Nat} {o : Od} (hkn : Knows ar o) (f g : Int) (xs ys : List Tm) (v1 v2 : Value) (Ap Aw : Option Addr) (cp cw : Nat) (B : Nat) (w : World) (hw1 : wfT ar (.mk f xs)) (hw2 : wfT ar (.mk g ys)) (hz : sizeT (.mk f xs) + sizeT (.mk g ys) ≤ 100000) (hlo1 : lowG (.mk f xs) = true) (hlo2 : lowG (.mk g ys) = true)
 (ho : OdV w B o Ap Aw cp cw) (hr1 : Rd w B (.sl 2 (encTms xs)) v1) (hr2 : Rd w B (.sl 2 (encTms ys)) v2) (hB : B ≤ w.heap.size) :
 Calls Tryz.prog 46 #[.agg #[.bool o.lpo, .slice Ap o.prec.length cp, .slice Aw o.weights.length cw, .int .i64 o.var], .agg #[.int .i64 f, v1], .agg #[.int .i64 g, v2]] w (BoolRes (lgt o.kp.pr (.mk f xs) (.mk g ys)) w) := by
 obtain ⟨A1, c1, rfl, -, hn1, -⟩ := hr1.tm_form
 obtain ⟨A2, c2, rfl, -, hn2, -⟩ := hr2.tm_form
 have hps := fun (w' : World) (hb : Below w.heap.size w w') => partsA_any B f xs (.slice A1 xs.length c1) w' (by omega) (hr1.low hb hB) (by have := hb.size; omega)
 have hpt := fun (w' : World) (hb : Below w.heap.size w w') => partsA_any B g ys (.slice A2 ys.length c2) w' (by omega) (hr2.low hb hB) (by have := hb.size; omega)
 have hab := fun (wb gm : Nat) (As At : Option Addr) (cs ct : Nat) (w' : World) => abv_any hkn (Ls := layP (.mk f xs) 0) (Lt := layP (.mk g ys) 0) (wb := wb) (gm := gm) (Ap := Ap) (Aw := Aw) (As := As) (At := At) (cp := cp) (cw := cw) (cs := cs) (ct := ct)
  (fun i s h => ⟨by have := (partAt_sub h).1; omega, (partAt_sub h).2 hlo1⟩) (fun i s h => (partAt_sub h).2 hlo2) (sizeT (.mk f xs) + sizeT (.mk g ys) + 1) 0 0 _ _ w' (Nat.lt_succ_self _) (layP_root _) (layP_root _) hw1 hw2
 have hpr := ho.p.rdP hB
 obtain ⟨r, hr⟩ : ∃ r, lgt o.kp.pr (.mk f xs) (.mk g ys) = r := ⟨_, rfl⟩
 rw [hr] at hab ⊢
 obtain ⟨Ls, hLs⟩ : ∃ Ls, layP (.mk f xs) 0 = Ls := ⟨_, rfl⟩
 obtain ⟨Lt, hLt⟩ : ∃ Lt, layP (.mk g ys) 0 = Lt := ⟨_, rfl⟩
 unfold PaA at hps hpt
 rw [hLs] at hps hab
 rw [hLt] at hpt hab
 have Hps := Lh hps
 have Hpt := Lh hpt
 have Hab := Lh hab
 have Hpr := Lh hpr
 clear hps hpt hab hpr ho hr1 hr2 hr hLs hLt hw1 hw2 hz hlo1 hlo2
 go_enter Tryz.func46, Tryz.ntmps46
 go_upto_region 1 with fail
 obtain ⟨hx1, hx2, hx3, hB3, hz3⟩ := boxes3 w (.cells #[.bool o.lpo, .slice Ap o.prec.length cp, .slice Aw o.weights.length cw, .int .i64 o.var] 38) (.cells #[.int .i64 f, .slice A1 xs.length c1] 32) (.cells #[.int .i64 g, .slice A2 ys.length c2] 32)
 generalize ((w.alloc (.cells #[.bool o.lpo, .slice Ap o.prec.length cp, .slice Aw o.weights.length cw, .int .i64 o.var] 38)).alloc (.cells #[.int .i64 f, .slice A1 xs.length c1] 32)).alloc (.cells #[.int .i64 g, .slice A2 ys.length c2] 32) = w3 at hx1 hx2 hx3 hB3 hz3 ⊢
 have hx1 : BoxN w.heap.size 38 #[.bool o.lpo, .slice Ap o.prec.length cp, .slice Aw o.weights.length cw, .int .i64 o.var] w3 := hx1
 have hx2 : Box2 (w.heap.size + 1) 32 (.int .i64 f) (.slice A1 xs.length c1) w3 := hx2
 have hx3 : Box2 (w.heap.size + 1 + 1) 32 (.int .i64 g) (.slice A2 ys.length c2) w3 := hx3
 have HB3 := Lh hB3
 have HX1 := Lh hx1
 have HX2 := Lh hx2
 have HX3 := Lh hx3
 have hz3l : w.heap.size + 1 + 1 < w3.heap.size := by omega
 clear hx1 hx2 hx3 hB3 hz3
 refine rg 9 (fun _ w' => Below w3.heap.size w3 w') ?_
 intro wd hwd hbd
 refine ⟨?_, fun hS => ?_⟩
 · exact hwd ▸ hbd
 refine tk 0 (.agg #[.bool o.lpo, .slice Ap o.prec.length cp, .slice Aw o.weights.length cw, .int .i64 o.var]) hS ?_ fun hS => ?_
 · intro w' L hn hw
   have hob := HX1.out.low hw
   have o0 : w'.cell? ⟨w.heap.size, 0, none⟩ = some (.bool o.lpo) := hob.cell 0
   have o1 : w'.cell? ⟨w.heap.size, 1, none⟩ = some (.slice Ap o.prec.length cp) := hob.cell 1
   have o2 : w'.cell? ⟨w.heap.size, 2, none⟩ = some (.slice Aw o.weights.length cw) := hob.cell 2
   have o3 : w'.cell? ⟨w.heap.size, 3, none⟩ = some (.int .i64 o.var) := hob.cell 3
   simp [execOp, go_sem, o0, o1, o2, o3]
 refine tk 1 (.agg #[.int .i64 f, .slice A1 xs.length c1]) hS ?_ fun hS => ?_
 · intro w' L hn hw
   have s1 := (HX2.out.low hw).cells
   simp [execOp, go_sem, s1.1, s1.2.1]
 refine tk 3 (.agg #[.int .i64 g, .slice A2 ys.length c2]) hS ?_ fun hS => ?_
 · intro w' L hn hw
   have s2 := (HX3.out.low hw).cells
   simp [execOp, go_sem, s2.1, s2.2.1]
 refine wpAnyS_all (rs := [2, 5]) (by kernel_rfl) (by simp) ?_
 intro q hq
 rcases List.mem_cons.1 hq with rfl | hq
 · refine wpOp_op (S := fun _ w' => Below w3.heap.size w3 w') 2 (o := { dst := some 10, op := Op.call { callee := Callee.value (Operand.func 76), args := #[Operand.tmp 9, Operand.const (Value.slice none 0 0)], argTypes := #[32, 117] }, type := 117, pos := "lpo.go:126", after := #[{ on := 1, ground := Ground.data }], guard := none }) (listed := #[true, true, false, true, false, false, false, false, false]) (listed' := #[true, true, true, true, false, false, false, false, false]) rfl rfl (by rfl) ?_
   have hsz := hS.size
   refine wp_enter (by simp [execOp, go_sem]) (Hps.out _ (HB3.out.trans (hS.mono (by omega)))) ?_
   rintro e ws ⟨As, cs, rfl, hlow, hRs⟩
   have hsl := hlow.size
   refine ⟨_, rfl, ?_⟩
   refine gS ?_ fun hS => ?_
   · exact hS.trans (hlow.mono hS.size)
   refine wpAnyS_all (rs := [4, 5]) (by kernel_rfl) (by simp) ?_
   intro q hq
   rcases List.mem_cons.1 hq with rfl | hq
   · refine wpOp_op (S := fun _ w' => Below w3.heap.size w3 w') 4 (o := { dst := some 12, op := Op.call { callee := Callee.value (Operand.func 76), args := #[Operand.tmp 11, Operand.const (Value.slice none 0 0)], argTypes := #[32, 117] }, type := 117, pos := "lpo.go:126", after := #[{ on := 3, ground := Ground.data }, { on := 2, ground := Ground.chain }], guard := none }) (listed := #[true, true, true, true, false, false, false, false, false]) (listed' := #[true, true, true, true, true, false, false, false, false]) rfl rfl (by rfl) ?_
     have hsz := hS.size
     refine wp_enter (by simp [execOp, go_sem]) (Hpt.out _ (HB3.out.trans (hS.mono (by omega)))) ?_
     rintro e wt ⟨At, ct, rfl, hlow, hRt⟩
     have hsl := hlow.size
     have hRs := hRs.low hlow
     refine ⟨_, rfl, ?_⟩
     refine gS ?_ fun hS => ?_
     · exact hS.trans (hlow.mono hS.size)
     refine so 5 ?_
     have hsz := hS.size
     refine wp_makeMap rfl ?_
     intro gm wm hgm hzm hlow hmp
     have hRs := hRs.low hlow
     have hRt := hRt.low hlow
     refine gS ?_ fun hS => ?_
     · exact hS.trans (hlow.mono hS.size)
     refine ta 6 (.agg #[.bool o.lpo, .slice Ap o.prec.length cp, .slice Aw o.weights.length cw, .int .i64 o.var, .slice As Ls.length cs, .slice At Lt.length ct, .map (some gm)]) hS fun hS => ?_
     refine so 7 ?_
     have hsz := hS.size
     refine wp_boxed (cs := #[.bool o.lpo, .slice Ap o.prec.length cp, .slice Aw o.weights.length cw, .int .i64 o.var, .slice As Ls.length cs, .slice At Lt.length ct, .map (some gm)]) (t := 121) (by simp [execOp, go_sem]) ?_
     intro wb wF hwb hzF hlow hbx
     have hRs := hRs.low hlow
     have hRt := hRt.low hlow
     have hmp := hmp.low hlow
     refine gS ?_ fun hS => ?_
     · exact hS.trans (hlow.mono hS.size)
     refine ta 8 (.pointer (some ⟨wb, 0, none⟩)) hS fun hS => ?_
     refine dn ?_
     have hlowF : Below w.heap.size w wF := HB3.out.trans (hS.mono (by omega))
     have hmem : Memo o Ls Lt gm wF := ⟨fun _ => none, hmp, fun _ _ _ h => (by cases h)⟩
     have hwk : Wk o Ls Lt wb gm Ap Aw As At cp cw cs ct wF := ⟨hbx, hRs.more (fun b hb _ => by omega), hRt.more (fun b hb _ => by omega), (Hpr.out.low hlowF).more (fun b hb _ => by omega), by omega⟩
     have hcall := Hab.out wb gm As At cs ct wF hwk hmem
     have Hcall := Lh hcall
     have HlowF := Lh hlowF
     have hgw : w.heap.size ≤ gm := by omega
     have hwF := hlowF.size
     clear hcall hmem hwk hRs hRt hmp hlowF hS hlow hbx hwb hzF hgm hzm
     go_wp2_with fail
     refine Hcall.out.mono ?_
     rintro e w9 ⟨rfl, hu9, -⟩
     have hfin : Below w.heap.size w w9 := HlowF.out.trans (hu9.toLow hwF (by rintro b rfl; exact hgw))
     have Hfin := Lh hfin
     clear hfin hu9
     go_wp2_with fail
     go_ret
     exact ⟨rfl, Hfin.out⟩
   obtain rfl := List.mem_singleton.1 hq
   refine wpOp_op (S := fun _ w' => Below w3.heap.size w3 w') 5 (o := { dst := some 13, op := Op.makeMap 119 none, type := 119, pos := "lpo.go:126", after := #[], guard := none }) (listed := #[true, true, true, true, false, false, false, false, false]) (listed' := #[true, true, true, true, false, true, false, false, false]) rfl rfl (by rfl) ?_
   have hsz := hS.size
   refine wp_makeMap rfl ?_
   intro gm wm hgm hzm hlow hmp
   try have hRs := hRs.low hlow
   refine gS ?_ fun hS => ?_
   · exact hS.trans (hlow.mono hS.size)
   refine so 4 ?_
   have hsz := hS.size
   refine wp_enter (by simp [execOp, go_sem]) (Hpt.out _ (HB3.out.trans (hS.mono (by omega)))) ?_
   rintro e wt ⟨At, ct, rfl, hlow, hRt⟩
   have hsl := hlow.size
   have hRs := hRs.low hlow
   have hmp := hmp.low hlow
   refine ⟨_, rfl, ?_⟩
   refine gS ?_ fun hS => ?_
   · exact hS.trans (hlow.mono hS.size)
   refine ta 6 (.agg #[.bool o.lpo, .slice Ap o.prec.length cp, .slice Aw o.weights.length cw, .int .i64 o.var, .slice As Ls.length cs, .slice At Lt.length ct, .map (some gm)]) hS fun hS => ?_
   refine so 7 ?_
   have hsz := hS.size
   refine wp_boxed (cs := #[.bool o.lpo, .slice Ap o.prec.length cp, .slice Aw o.weights.length cw, .int .i64 o.var, .slice As Ls.length cs, .slice At Lt.length ct, .map (some gm)]) (t := 121) (by simp [execOp, go_sem]) ?_
   intro wb wF hwb hzF hlow hbx
   have hRs := hRs.low hlow
   have hRt := hRt.low hlow
   have hmp := hmp.low hlow
   refine gS ?_ fun hS => ?_
   · exact hS.trans (hlow.mono hS.size)
   refine ta 8 (.pointer (some ⟨wb, 0, none⟩)) hS fun hS => ?_
   refine dn ?_
   have hlowF : Below w.heap.size w wF := HB3.out.trans (hS.mono (by omega))
   have hmem : Memo o Ls Lt gm wF := ⟨fun _ => none, hmp, fun _ _ _ h => (by cases h)⟩
   have hwk : Wk o Ls Lt wb gm Ap Aw As At cp cw cs ct wF := ⟨hbx, hRs.more (fun b hb _ => by omega), hRt.more (fun b hb _ => by omega), (Hpr.out.low hlowF).more (fun b hb _ => by omega), by omega⟩
   have hcall := Hab.out wb gm As At cs ct wF hwk hmem
   have Hcall := Lh hcall
   have HlowF := Lh hlowF
   have hgw : w.heap.size ≤ gm := by omega
   have hwF := hlowF.size
   clear hcall hmem hwk hRs hRt hmp hlowF hS hlow hbx hwb hzF hgm hzm
   go_wp2_with fail
   refine Hcall.out.mono ?_
   rintro e w9 ⟨rfl, hu9, -⟩
   have hfin : Below w.heap.size w w9 := HlowF.out.trans (hu9.toLow hwF (by rintro b rfl; exact hgw))
   have Hfin := Lh hfin
   clear hfin hu9
   go_wp2_with fail
   go_ret
   exact ⟨rfl, Hfin.out⟩
 obtain rfl := List.mem_singleton.1 hq
 refine wpOp_op (S := fun _ w' => Below w3.heap.size w3 w') 5 (o := { dst := some 13, op := Op.makeMap 119 none, type := 119, pos := "lpo.go:126", after := #[], guard := none }) (listed := #[true, true, false, true, false, false, false, false, false]) (listed' := #[true, true, false, true, false, true, false, false, false]) rfl rfl (by rfl) ?_
 have hsz := hS.size
 refine wp_makeMap rfl ?_
 intro gm wm hgm hzm hlow hmp
 try have hRs := hRs.low hlow
 refine gS ?_ fun hS => ?_
 · exact hS.trans (hlow.mono hS.size)
 refine so 2 ?_
 have hsz := hS.size
 refine wp_enter (by simp [execOp, go_sem]) (Hps.out _ (HB3.out.trans (hS.mono (by omega)))) ?_
 rintro e ws ⟨As, cs, rfl, hlow, hRs⟩
 have hsl := hlow.size
 have hmp := hmp.low hlow
 refine ⟨_, rfl, ?_⟩
 refine gS ?_ fun hS => ?_
 · exact hS.trans (hlow.mono hS.size)
 refine so 4 ?_
 have hsz := hS.size
 refine wp_enter (by simp [execOp, go_sem]) (Hpt.out _ (HB3.out.trans (hS.mono (by omega)))) ?_
 rintro e wt ⟨At, ct, rfl, hlow, hRt⟩
 have hsl := hlow.size
 have hRs := hRs.low hlow
 have hmp := hmp.low hlow
 refine ⟨_, rfl, ?_⟩
 refine gS ?_ fun hS => ?_
 · exact hS.trans (hlow.mono hS.size)
 refine ta 6 (.agg #[.bool o.lpo, .slice Ap o.prec.length cp, .slice Aw o.weights.length cw, .int .i64 o.var, .slice As Ls.length cs, .slice At Lt.length ct, .map (some gm)]) hS fun hS => ?_
 refine so 7 ?_
 have hsz := hS.size
 refine wp_boxed (cs := #[.bool o.lpo, .slice Ap o.prec.length cp, .slice Aw o.weights.length cw, .int .i64 o.var, .slice As Ls.length cs, .slice At Lt.length ct, .map (some gm)]) (t := 121) (by simp [execOp, go_sem]) ?_
 intro wb wF hwb hzF hlow hbx
 have hRs := hRs.low hlow
 have hRt := hRt.low hlow
 have hmp := hmp.low hlow
 refine gS ?_ fun hS => ?_
 · exact hS.trans (hlow.mono hS.size)
 refine ta 8 (.pointer (some ⟨wb, 0, none⟩)) hS fun hS => ?_
 refine dn ?_
 have hlowF : Below w.heap.size w wF := HB3.out.trans (hS.mono (by omega))
 have hmem : Memo o Ls Lt gm wF := ⟨fun _ => none, hmp, fun _ _ _ h => (by cases h)⟩
 have hwk : Wk o Ls Lt wb gm Ap Aw As At cp cw cs ct wF := ⟨hbx, hRs.more (fun b hb _ => by omega), hRt.more (fun b hb _ => by omega), (Hpr.out.low hlowF).more (fun b hb _ => by omega), by omega⟩
 have hcall := Hab.out wb gm As At cs ct wF hwk hmem
 have Hcall := Lh hcall
 have HlowF := Lh hlowF
 have hgw : w.heap.size ≤ gm := by omega
 have hwF := hlowF.size
 clear hcall hmem hwk hRs hRt hmp hlowF hS hlow hbx hwb hzF hgm hzm
 go_wp2_with fail
 refine Hcall.out.mono ?_
 rintro e w9 ⟨rfl, hu9, -⟩
 have hfin : Below w.heap.size w w9 := HlowF.out.trans (hu9.toLow hwF (by rintro b rfl; exact hgw))
 have Hfin := Lh hfin
 clear hfin hu9
 go_wp2_with fail
 go_ret
 exact ⟨rfl, Hfin.out⟩
theorem rl_fin {r r' : Rl} {w w' : World} (h : r = r') (hb : Below w.heap.size w w') : RlRes r w (.returned (.int .i64 r'.int)) w' := ⟨by rw [h], hb⟩
theorem klex_at (o : KP) {xs ys : List Tm} {k : Nat} (h1 : k < xs.length) (h2 : k < ys.length) : klex o (xs.drop k) (ys.drop k) = if eqB xs[k] ys[k] = true then klex o (xs.drop (k + 1)) (ys.drop (k + 1)) else kcmp o xs[k] ys[k] := by
 rw [List.drop_eq_getElem_cons h1, List.drop_eq_getElem_cons h2, klex]
 by_cases h : xs[k] = ys[k]
 · rw [if_pos h, if_pos ((eqB_iff _ _).2 h)]
 rw [if_neg h, if_neg (fun e => h ((eqB_iff _ _).1 e))]
theorem reasonF_any {ar : Int → Option Nat} {o : Od} (hk : KOd ar o) (i j : Nat) (xs ys : List Tm) (v1 v2 : Value) (Ap Aw : Option Addr) (cp cw : Nat) (B : Nat) (w : World) (hw1 : wfT ar (.mk (i : Nat) xs)) (hw2 : wfT ar (.mk (j : Nat) ys)) (hz : sizeT (.mk (i : Nat) xs) + sizeT (.mk (j : Nat) ys) ≤ 100000) (ho : OdV w B o Ap Aw cp cw) (hr1 : Rd w B (.sl 2 (encTms xs)) v1) (hr2 : Rd w B (.sl 2 (encTms ys)) v2) (hB : B ≤ w.heap.size)
 (hc : ∀ (f1 f2 : Int) (us1 us2 : List Tm), Tm.mk f1 us1 ∈ xs → Tm.mk f2 us2 ∈ ys → ∀ (v1 v2 : Value) (w' : World), Below w.heap.size w w' → Rd w' B (.sl 2 (encTms us1)) v1 → Rd w' B (.sl 2 (encTms us2)) v2 →
   Calls Tryz.prog 48 #[.agg #[.bool o.lpo, .slice Ap o.prec.length cp, .slice Aw o.weights.length cw, .int .i64 o.var], .agg #[.int .i64 f1, v1], .agg #[.int .i64 f2, v2]] w' (RlRes (kcmp o.kp (.mk f1 us1) (.mk f2 us2)) w')) :
 Calls Tryz.prog 79 #[.agg #[.bool o.lpo, .slice Ap o.prec.length cp, .slice Aw o.weights.length cw, .int .i64 o.var], .agg #[.int .i64 (i : Nat), v1], .agg #[.int .i64 (j : Nat), v2]] w (RlRes (krsn o.kp (i : Nat) xs (j : Nat) ys (klex o.kp xs ys)) w) := by
 have Hc := Lh hc
 clear hc
 have hip := hk.knows.1 _ _ (by omega) (hw1.ar (by omega))
 have hjp := hk.knows.1 _ _ (by omega) (hw2.ar (by omega))
 have hip : i < o.prec.length := by omega
 have hjp : j < o.prec.length := by omega
 obtain ⟨pi, hpi⟩ : ∃ pi, o.prec[i] = pi := ⟨_, rfl⟩
 obtain ⟨pj, hpj⟩ : ∃ pj, o.prec[j] = pj := ⟨_, rfl⟩
 have hpr1 : o.kp.pr (i : Nat) = pi := by unfold Od.kp; dsimp only; rw [Int.toNat_natCast, List.getElem?_eq_getElem hip, Option.getD_some, hpi]
 have hpr2 : o.kp.pr (j : Nat) = pj := by unfold Od.kp; dsimp only; rw [Int.toNat_natCast, List.getElem?_eq_getElem hjp, Option.getD_some, hpj]
 obtain ⟨pb, po, hAp, hpb, p0⟩ := Rd.leaf_at (f := fun n => .int .i64 n) (show Rd w B (.sl 1 (o.prec.map fun n => [.leaf (.int .i64 n)])) _ from ho.p) hip
 subst hAp
 obtain ⟨pb2, po2, hAp2, hpb2, p02⟩ := Rd.leaf_at (f := fun n => .int .i64 n) (show Rd w B (.sl 1 (o.prec.map fun n => [.leaf (.int .i64 n)])) _ from ho.p) hjp
 injection hAp2 with hAp2
 injection hAp2 with e1 e2 _
 subst e1 e2
 rw [hpi] at p0
 rw [hpj] at p02
 have P01 := Lh p0
 have P02 := Lh p02
 have Hpr1 := Lh hpr1
 have Hpr2 := Lh hpr2
 clear hpi hpj hpr1 hpr2 p0 p02
 have Hle := Lh (fun (e : i = j) => hw1.len (show wfT ar (.mk (i : Nat) ys) by rw [e]; exact hw2) (by omega))
 obtain ⟨A1, c1, rfl, -, hn1, -⟩ := hr1.tm_form
 obtain ⟨A2, c2, rfl, -, hn2, -⟩ := hr2.tm_form
 obtain ⟨a, ha⟩ : ∃ a, wT o.kp (.mk (i : Nat) xs) = a := ⟨_, rfl⟩
 obtain ⟨b, hb⟩ : ∃ b, wT o.kp (.mk (j : Nat) ys) = b := ⟨_, rfl⟩
 have hzw1 := wT_le hk _ hw1
 have hzw2 := wT_le hk _ hw2
 have hca := fun (w' : World) (hb : Below w.heap.size w w') => weigh_any hk (i : Nat) xs (.slice A1 xs.length c1) (some ⟨pb, po, none⟩) Aw cp cw B w' hw1 (by omega) (ho.low hb hB) (hr1.low hb hB) (by have := hb.size; omega)
 have hcb := fun (w' : World) (hb : Below w.heap.size w w') => weigh_any hk (j : Nat) ys (.slice A2 ys.length c2) (some ⟨pb, po, none⟩) Aw cp cw B w' hw2 (by omega) (ho.low hb hB) (hr2.low hb hB) (by have := hb.size; omega)
 rw [ha] at hca hzw1
 rw [hb] at hcb hzw2
 have Hca := Lh hca
 have Hcb := Lh hcb
 have Ha := Lh ha
 have Hb := Lh hb
 have HR1 := Lh hr1
 have HR2 := Lh hr2
 have HO := Lh ho
 have Hk := Lh hk
 have Hw1 := Lh hw1
 have Hw2 := Lh hw2
 clear hca hcb ha hb hr1 hr2 ho hk hw1 hw2 hzw1 hzw2
 obtain ⟨res, hres⟩ : ∃ res, krsn o.kp (i : Nat) xs (j : Nat) ys (klex o.kp xs ys) = res := ⟨_, rfl⟩
 rw [hres]
 unfold krsn at hres
 rw [Ha.out, Hb.out] at hres
 have Hres := Lh hres
 clear hres
 go_enter Tryz.func79, Tryz.ntmps79
 go_upto_region 1 with fail
 obtain ⟨hx1, hx2, hx3, hB3, hz3⟩ := boxes3 w (.cells #[.bool o.lpo, .slice (some ⟨pb, po, none⟩) o.prec.length cp, .slice Aw o.weights.length cw, .int .i64 o.var] 38) (.cells #[.int .i64 (i : Nat), .slice A1 xs.length c1] 32) (.cells #[.int .i64 (j : Nat), .slice A2 ys.length c2] 32)
 generalize ((w.alloc (.cells #[.bool o.lpo, .slice (some ⟨pb, po, none⟩) o.prec.length cp, .slice Aw o.weights.length cw, .int .i64 o.var] 38)).alloc (.cells #[.int .i64 (i : Nat), .slice A1 xs.length c1] 32)).alloc (.cells #[.int .i64 (j : Nat), .slice A2 ys.length c2] 32) = w3 at hx1 hx2 hx3 hB3 hz3 ⊢
 have hx1 : BoxN w.heap.size 38 #[.bool o.lpo, .slice (some ⟨pb, po, none⟩) o.prec.length cp, .slice Aw o.weights.length cw, .int .i64 o.var] w3 := hx1
 have hx2 : Box2 (w.heap.size + 1) 32 (.int .i64 (i : Nat)) (.slice A1 xs.length c1) w3 := hx2
 have hx3 : Box2 (w.heap.size + 1 + 1) 32 (.int .i64 (j : Nat)) (.slice A2 ys.length c2) w3 := hx3
 have HB3 := Lh hB3
 have HX1 := Lh hx1
 have HX2 := Lh hx2
 have HX3 := Lh hx3
 have hz3l : w.heap.size + 1 + 1 < w3.heap.size := by omega
 clear hx1 hx2 hx3 hB3 hz3
 refine bu 8 (fun w' => Below w3.heap.size w3 w') (fun wd hwd hbd => ?_) ?_
 · exact hwd ▸ hbd
 refine ru 0 (.agg #[.bool o.lpo, .slice (some ⟨pb, po, none⟩) o.prec.length cp, .slice Aw o.weights.length cw, .int .i64 o.var]) (fun w' hw => ?_) ?_
 · have ob := HX1.out.low hw
   have o0 : w'.cell? ⟨w.heap.size, 0, none⟩ = some (.bool o.lpo) := ob.cell 0
   have o1 : w'.cell? ⟨w.heap.size, 1, none⟩ = some (.slice (some ⟨pb, po, none⟩) o.prec.length cp) := ob.cell 1
   have o2 : w'.cell? ⟨w.heap.size, 2, none⟩ = some (.slice Aw o.weights.length cw) := ob.cell 2
   have o3 : w'.cell? ⟨w.heap.size, 3, none⟩ = some (.int .i64 o.var) := ob.cell 3
   simp [execOp, go_sem, o0, o1, o2, o3]
 refine ru 1 (.agg #[.int .i64 (i : Nat), .slice A1 xs.length c1]) (fun w' hw => ?_) ?_
 · have s1 := (HX2.out.low hw).cells
   simp [execOp, go_sem, s1.1, s1.2.1]
 refine cu 2 (.int .i64 (a : Nat)) (fun w' hw => (Hca.out w' (HB3.out.trans (hw.mono (by omega)))).mono ?_) ?_
 · rintro e w2 ⟨rfl, hb⟩
   exact ⟨rfl, hw.trans (hb.mono hw.size)⟩
 refine ru 3 (.agg #[.bool o.lpo, .slice (some ⟨pb, po, none⟩) o.prec.length cp, .slice Aw o.weights.length cw, .int .i64 o.var]) (fun w' hw => ?_) ?_
 · have ob := HX1.out.low hw
   have o0 : w'.cell? ⟨w.heap.size, 0, none⟩ = some (.bool o.lpo) := ob.cell 0
   have o1 : w'.cell? ⟨w.heap.size, 1, none⟩ = some (.slice (some ⟨pb, po, none⟩) o.prec.length cp) := ob.cell 1
   have o2 : w'.cell? ⟨w.heap.size, 2, none⟩ = some (.slice Aw o.weights.length cw) := ob.cell 2
   have o3 : w'.cell? ⟨w.heap.size, 3, none⟩ = some (.int .i64 o.var) := ob.cell 3
   simp [execOp, go_sem, o0, o1, o2, o3]
 refine ru 4 (.agg #[.int .i64 (j : Nat), .slice A2 ys.length c2]) (fun w' hw => ?_) ?_
 · have s2 := (HX3.out.low hw).cells
   simp [execOp, go_sem, s2.1, s2.2.1]
 refine cu 5 (.int .i64 (b : Nat)) (fun w' hw => (Hcb.out w' (HB3.out.trans (hw.mono (by omega)))).mono ?_) ?_
 · rintro e w2 ⟨rfl, hb⟩
   exact ⟨rfl, hw.trans (hb.mono hw.size)⟩
 refine pu 6 (.int .i64 (a : Nat)) ?_
 refine pu 7 (.int .i64 (b : Nat)) ?_
 refine du (fun wz hS => ?_)
 obtain ⟨w4, hw4⟩ : ∃ w4, wz = w4 := ⟨_, rfl⟩
 rw [hw4] at hS ⊢
 have hz4 := hS.size
 have HB4 := Lh (HB3.out.trans (hS.mono (by omega)))
 have hob := HX1.out.low hS
 have hsb := HX2.out.low hS
 have htb := HX3.out.low hS
 have HX14 := Lh hob
 have HX24 := Lh hsb
 have HX34 := Lh htb
 have o0 : w4.cell? ⟨w.heap.size, 0, none⟩ = some (.bool o.lpo) := hob.cell 0
 have o1 : w4.cell? ⟨w.heap.size, 1, none⟩ = some (.slice (some ⟨pb, po, none⟩) o.prec.length cp) := hob.cell 1
 have o2 : w4.cell? ⟨w.heap.size, 2, none⟩ = some (.slice Aw o.weights.length cw) := hob.cell 2
 have o3 : w4.cell? ⟨w.heap.size, 3, none⟩ = some (.int .i64 o.var) := hob.cell 3
 obtain ⟨s1, s2, -⟩ := hsb.cells
 obtain ⟨t1, t2, -⟩ := htb.cells
 clear hw4 hob hsb htb hS HX1 HX2 HX3
 by_cases h1 : b < a
 · have hr : res = .gt := by rw [← Hres.out, if_pos h1]
   have h1' : ¬ a < b := by omega
   have Hr := Lh hr
   clear hr
   go_wp2_with fail
   go_ret
   exact ⟨by rw [Hr.out]; rfl, HB4.out⟩
 by_cases h2 : a < b
 · have hr : res = .lt := by rw [← Hres.out, if_neg h1, if_pos h2]
   have Hr := Lh hr
   clear hr
   go_wp2_with fail
   go_ret
   exact ⟨by rw [Hr.out]; rfl, HB4.out⟩
 have hres := Hres.out
 rw [if_neg h1, if_neg h2] at hres
 rw [if_neg (by omega), if_neg (by omega), if_neg (by omega), Hpr1.out, Hpr2.out] at hres
 have hip' : ¬ ((o.prec.length : Int) ≤ (i : Int)) := by omega
 have hjp' : ¬ ((o.prec.length : Int) ≤ (j : Int)) := by omega
 have P1 := Lh ((HB4.out.cell (p := ⟨pb, po + i, none⟩) (show pb < w.heap.size by omega)).trans P01.out)
 have P2 := Lh ((HB4.out.cell (p := ⟨pb, po + j, none⟩) (show pb < w.heap.size by omega)).trans P02.out)
 by_cases hij : i = j
 · rw [if_pos (by rw [hij])] at hres
   have hll := Hle.out hij
   have q : (((i : Nat) : Int) != ((j : Nat) : Int)) = false := by rw [hij]; simp
   have hll2 : ¬ ys.length < xs.length := by omega
   have Hll := Lh hll
   have Hr := Lh hres
   clear hres hll hij hip' hjp' P1 P2
   go_wp2_with fail
   clear s1 s2 t1 t2 o0 o1 o2 o3
   go_loopw [89] (fun c wr => ∃ k : Nat, k ≤ xs.length ∧ c = .int .i64 k ∧ klex o.kp (xs.drop k) (ys.drop k) = res ∧ Below w4.heap.size w4 wr) (fun c _ => xs.length - (intOf c).toNat)
   case atStart => exact ⟨0, Nat.zero_le _, rfl, Hr.out, Below.refl _ _⟩
   obtain ⟨k, hkl, rfl, hkx, hbel⟩ := hrel
   have hzr := hbel.size
   have hlow : Below w.heap.size w wr := HB4.out.trans (hbel.mono (by omega))
   have HX1r := Lh (HX14.out.low hbel)
   have HX2r := Lh (HX24.out.low hbel)
   have HX3r := Lh (HX34.out.low hbel)
   have Hlow := Lh hlow
   have Hbel := Lh hbel
   have Hkx := Lh hkx
   have hszr : B ≤ wr.heap.size := by omega
   clear hbel hkx hlow
   by_cases hk1 : k < xs.length
   · have hk2 : k < ys.length := by have := Hll.out; omega
     have hk1' : ¬ ((xs.length : Int) ≤ (k : Int)) := by omega
     have hk2' : ¬ ((ys.length : Int) ≤ (k : Int)) := by omega
     obtain ⟨ab1, off1, f1, us1, B1, d1, rfl, hxk, hab1, k0, k1, hrd1⟩ := (HR1.out.low Hlow.out hB).tm_at hk1
     obtain ⟨ab2, off2, f2, us2, B2, d2, rfl, hyk, hab2, l0, l1, hrd2⟩ := (HR2.out.low Hlow.out hB).tm_at hk2
     have hat := klex_at o.kp hk1 hk2
     rw [Hkx.out, hxk, hyk] at hat
     have hm1 : Tm.mk f1 us1 ∈ xs := hxk ▸ List.getElem_mem hk1
     have hm2 : Tm.mk f2 us2 ∈ ys := hyk ▸ List.getElem_mem hk2
     have hsa := fun (w' : World) (hb : Below wr.heap.size wr w') => same_tm f1 f2 us1 us2 (.slice B1 us1.length d1) (.slice B2 us2.length d2) B w' (hrd1.low hb hszr) (hrd2.low hb hszr) (by have := hb.size; omega)
     have hcm := fun (w' : World) (hb : Below wr.heap.size wr w') => Hc.out f1 f2 us1 us2 hm1 hm2 (.slice B1 us1.length d1) (.slice B2 us2.length d2) w' (Hlow.out.trans (hb.mono Hlow.out.size)) (hrd1.low hb hszr) (hrd2.low hb hszr)
     have Hsa := Lh hsa
     have Hcm := Lh hcm
     have Hat := Lh hat
     have K0 := Lh k0
     have K1 := Lh k1
     have L0 := Lh l0
     have L1 := Lh l1
     clear hsa hcm hat k0 k1 l0 l1 hrd1 hrd2 hxk hyk hm1 hm2
     cases hb : eqB (.mk f1 us1) (.mk f2 us2) with
     | true =>
       rw [hb] at Hsa
       have hat := Hat.out
       rw [if_pos hb] at hat
       have Hn := Lh hat
       clear hat hb
       go_upto_region 23 with fail
       refine bu 12 (fun w' => Below wr.heap.size wr w') (fun wd hwd hbd => ?_) ?_
       · exact hwd ▸ hbd
       refine pu 0 (.pointer (some ⟨w.heap.size + 1, 1, none⟩)) ?_
       refine ru 1 (.slice (some ⟨ab1, off1, none⟩) xs.length c1) (fun w' hw => ?_) ?_
       · have s1 := (HX2r.out.low hw).cells
         simp [execOp, go_sem, s1.2.1]
       refine pu 2 (.int .i64 (k : Nat)) ?_
       refine ru 3 (.pointer (some ⟨ab1, off1 + k * 2, none⟩)) (fun w' hw => ?_) ?_
       · simp [execOp, go_sem, hk1, hk1']
       refine ru 4 (.agg #[.int .i64 f1, .slice B1 us1.length d1]) (fun w' hw => ?_) ?_
       · have k0 := (hw.cell (p := ⟨ab1, off1 + k * 2, none⟩) (show ab1 < wr.heap.size by omega)).trans K0.out
         have k1 := (hw.cell (p := ⟨ab1, off1 + k * 2 + 1, none⟩) (show ab1 < wr.heap.size by omega)).trans K1.out
         simp [execOp, go_sem, k0, k1]
       refine pu 5 (.pointer (some ⟨w.heap.size + 1 + 1, 1, none⟩)) ?_
       refine ru 6 (.slice (some ⟨ab2, off2, none⟩) ys.length c2) (fun w' hw => ?_) ?_
       · have s2 := (HX3r.out.low hw).cells
         simp [execOp, go_sem, s2.2.1]
       refine pu 7 (.int .i64 (k : Nat)) ?_
       refine ru 8 (.pointer (some ⟨ab2, off2 + k * 2, none⟩)) (fun w' hw => ?_) ?_
       · simp [execOp, go_sem, hk2, hk2']
       refine ru 9 (.agg #[.int .i64 f2, .slice B2 us2.length d2]) (fun w' hw => ?_) ?_
       · have l0 := (hw.cell (p := ⟨ab2, off2 + k * 2, none⟩) (show ab2 < wr.heap.size by omega)).trans L0.out
         have l1 := (hw.cell (p := ⟨ab2, off2 + k * 2 + 1, none⟩) (show ab2 < wr.heap.size by omega)).trans L1.out
         simp [execOp, go_sem, l0, l1]
       refine cu 10 (.bool true) (fun w' hw => (Hsa.out w' hw).mono ?_) ?_
       · rintro e w2 ⟨rfl, hb⟩
         exact ⟨rfl, hw.trans (hb.mono hw.size)⟩
       refine pu 11 (.bool false) ?_
       refine du (fun wz hS => ?_)
       have hzz := hS.size
       have HSz := Lh hS
       clear hS
       go_wp2_with fail
       go_roundw
       case rel => exact ⟨k + 1, by omega, by go_num, Hn.out.symm, Hbel.out.trans (HSz.out.mono (by omega))⟩
       case measure => simp [intOf]; omega
     | false =>
       rw [hb] at Hsa
       have hat := Hat.out
       rw [if_neg (by rw [hb]; decide)] at hat
       have Hn := Lh hat
       obtain ⟨rc, hrc⟩ : ∃ rc, kcmp o.kp (.mk f1 us1) (.mk f2 us2) = rc := ⟨_, rfl⟩
       rw [hrc] at Hcm Hn
       clear hat hb hrc
       go_upto_region 23 with fail
       refine bu 12 (fun w' => Below wr.heap.size wr w') (fun wd hwd hbd => ?_) ?_
       · exact hwd ▸ hbd
       refine pu 0 (.pointer (some ⟨w.heap.size + 1, 1, none⟩)) ?_
       refine ru 1 (.slice (some ⟨ab1, off1, none⟩) xs.length c1) (fun w' hw => ?_) ?_
       · have s1 := (HX2r.out.low hw).cells
         simp [execOp, go_sem, s1.2.1]
       refine pu 2 (.int .i64 (k : Nat)) ?_
       refine ru 3 (.pointer (some ⟨ab1, off1 + k * 2, none⟩)) (fun w' hw => ?_) ?_
       · simp [execOp, go_sem, hk1, hk1']
       refine ru 4 (.agg #[.int .i64 f1, .slice B1 us1.length d1]) (fun w' hw => ?_) ?_
       · have k0 := (hw.cell (p := ⟨ab1, off1 + k * 2, none⟩) (show ab1 < wr.heap.size by omega)).trans K0.out
         have k1 := (hw.cell (p := ⟨ab1, off1 + k * 2 + 1, none⟩) (show ab1 < wr.heap.size by omega)).trans K1.out
         simp [execOp, go_sem, k0, k1]
       refine pu 5 (.pointer (some ⟨w.heap.size + 1 + 1, 1, none⟩)) ?_
       refine ru 6 (.slice (some ⟨ab2, off2, none⟩) ys.length c2) (fun w' hw => ?_) ?_
       · have s2 := (HX3r.out.low hw).cells
         simp [execOp, go_sem, s2.2.1]
       refine pu 7 (.int .i64 (k : Nat)) ?_
       refine ru 8 (.pointer (some ⟨ab2, off2 + k * 2, none⟩)) (fun w' hw => ?_) ?_
       · simp [execOp, go_sem, hk2, hk2']
       refine ru 9 (.agg #[.int .i64 f2, .slice B2 us2.length d2]) (fun w' hw => ?_) ?_
       · have l0 := (hw.cell (p := ⟨ab2, off2 + k * 2, none⟩) (show ab2 < wr.heap.size by omega)).trans L0.out
         have l1 := (hw.cell (p := ⟨ab2, off2 + k * 2 + 1, none⟩) (show ab2 < wr.heap.size by omega)).trans L1.out
         simp [execOp, go_sem, l0, l1]
       refine cu 10 (.bool false) (fun w' hw => (Hsa.out w' hw).mono ?_) ?_
       · rintro e w2 ⟨rfl, hb⟩
         exact ⟨rfl, hw.trans (hb.mono hw.size)⟩
       refine pu 11 (.bool true) ?_
       refine du (fun wz hS => ?_)
       have hzz := hS.size
       have HSz := Lh hS
       clear hS
       go_upto_region 24 with fail
       refine bu 13 (fun w' => Below wr.heap.size wr w') (fun wd hwd hbd => ?_) ?_
       · exact HSz.out.trans (hbd.mono HSz.out.size)
       refine ru 0 (.agg #[.bool o.lpo, .slice (some ⟨pb, po, none⟩) o.prec.length cp, .slice Aw o.weights.length cw, .int .i64 o.var]) (fun w' hw => ?_) ?_
       · have ob := HX1r.out.low hw
         have o0 : w'.cell? ⟨w.heap.size, 0, none⟩ = some (.bool o.lpo) := ob.cell 0
         have o1 : w'.cell? ⟨w.heap.size, 1, none⟩ = some (.slice (some ⟨pb, po, none⟩) o.prec.length cp) := ob.cell 1
         have o2 : w'.cell? ⟨w.heap.size, 2, none⟩ = some (.slice Aw o.weights.length cw) := ob.cell 2
         have o3 : w'.cell? ⟨w.heap.size, 3, none⟩ = some (.int .i64 o.var) := ob.cell 3
         simp [execOp, go_sem, o0, o1, o2, o3]
       refine pu 1 (.pointer (some ⟨w.heap.size + 1, 1, none⟩)) ?_
       refine ru 2 (.slice (some ⟨ab1, off1, none⟩) xs.length c1) (fun w' hw => ?_) ?_
       · have s1 := (HX2r.out.low hw).cells
         simp [execOp, go_sem, s1.2.1]
       refine pu 3 (.int .i64 (k : Nat)) ?_
       refine ru 4 (.pointer (some ⟨ab1, off1 + k * 2, none⟩)) (fun w' hw => ?_) ?_
       · simp [execOp, go_sem, hk1, hk1']
       refine ru 5 (.agg #[.int .i64 f1, .slice B1 us1.length d1]) (fun w' hw => ?_) ?_
       · have k0 := (hw.cell (p := ⟨ab1, off1 + k * 2, none⟩) (show ab1 < wr.heap.size by omega)).trans K0.out
         have k1 := (hw.cell (p := ⟨ab1, off1 + k * 2 + 1, none⟩) (show ab1 < wr.heap.size by omega)).trans K1.out
         simp [execOp, go_sem, k0, k1]
       refine pu 6 (.pointer (some ⟨w.heap.size + 1 + 1, 1, none⟩)) ?_
       refine ru 7 (.slice (some ⟨ab2, off2, none⟩) ys.length c2) (fun w' hw => ?_) ?_
       · have s2 := (HX3r.out.low hw).cells
         simp [execOp, go_sem, s2.2.1]
       refine pu 8 (.int .i64 (k : Nat)) ?_
       refine ru 9 (.pointer (some ⟨ab2, off2 + k * 2, none⟩)) (fun w' hw => ?_) ?_
       · simp [execOp, go_sem, hk2, hk2']
       refine ru 10 (.agg #[.int .i64 f2, .slice B2 us2.length d2]) (fun w' hw => ?_) ?_
       · have l0 := (hw.cell (p := ⟨ab2, off2 + k * 2, none⟩) (show ab2 < wr.heap.size by omega)).trans L0.out
         have l1 := (hw.cell (p := ⟨ab2, off2 + k * 2 + 1, none⟩) (show ab2 < wr.heap.size by omega)).trans L1.out
         simp [execOp, go_sem, l0, l1]
       refine cu 11 (.int .i64 rc.int) (fun w' hw => (Hcm.out w' hw).mono ?_) ?_
       · rintro e w2 ⟨rfl, hb⟩
         exact ⟨rfl, hw.trans (hb.mono hw.size)⟩
       refine pu 12 (.int .i64 rc.int) ?_
       refine du (fun wz hS => ?_)
       have hbz : Below w.heap.size w wz := Hlow.out.trans (hS.mono (by omega))
       have HBZ := Lh hbz
       clear hS hbz
       go_wp2_with fail
       go_ret
       exact rl_fin (r' := rc) Hn.out HBZ.out
   have hkk : k = xs.length := by omega
   have hend : Rl.lt = res := by
    have := Hkx.out
    rw [hkk, List.drop_length, klex] at this
    exact this
   have Hend := Lh hend
   have s1 := HX2r.out.cells
   have t1 := HX3r.out.cells
   obtain ⟨s10, s11, -⟩ := s1
   obtain ⟨t10, t11, -⟩ := t1
   clear hkk hend
   go_wp2_with fail
   go_ret
   exact rl_fin (r' := .lt) Hend.out.symm Hlow.out
 rw [if_neg (by omega)] at hres
 have q : (((i : Nat) : Int) != ((j : Nat) : Int)) = true := by rw [bne_iff_ne]; omega
 by_cases hp1 : pj < pi
 · rw [if_pos hp1] at hres
   have Hr := Lh hres
   clear hres hij
   go_upto_region 15 with fail
   refine bu 13 (fun w' => Below w4.heap.size w4 w') (fun wd hwd hbd => ?_) ?_
   · exact hbd
   refine pu 0 (.pointer (some ⟨w.heap.size, 1, none⟩)) ?_
   refine ru 1 (.slice (some ⟨pb, po, none⟩) o.prec.length cp) (fun w' hw => ?_) ?_
   · have ob := HX14.out.low hw
     have o1 : w'.cell? ⟨w.heap.size, 1, none⟩ = some (.slice (some ⟨pb, po, none⟩) o.prec.length cp) := ob.cell 1
     simp [execOp, go_sem, o1]
   refine pu 2 (.pointer (some ⟨w.heap.size + 1, 0, none⟩)) ?_
   refine ru 3 (.int .i64 (i : Nat)) (fun w' hw => ?_) ?_
   · have s1 := (HX24.out.low hw).cells
     simp [execOp, go_sem, s1.1]
   refine ru 4 (.pointer (some ⟨pb, po + i, none⟩)) (fun w' hw => ?_) ?_
   · simp [execOp, go_sem, hip, hip']
   refine ru 5 (.int .i64 pi) (fun w' hw => ?_) ?_
   · have p1 := (hw.cell (p := ⟨pb, po + i, none⟩) (show pb < w4.heap.size by omega)).trans P1.out
     simp [execOp, go_sem, p1]
   refine pu 6 (.pointer (some ⟨w.heap.size, 1, none⟩)) ?_
   refine ru 7 (.slice (some ⟨pb, po, none⟩) o.prec.length cp) (fun w' hw => ?_) ?_
   · have ob := HX14.out.low hw
     have o1 : w'.cell? ⟨w.heap.size, 1, none⟩ = some (.slice (some ⟨pb, po, none⟩) o.prec.length cp) := ob.cell 1
     simp [execOp, go_sem, o1]
   refine pu 8 (.pointer (some ⟨w.heap.size + 1 + 1, 0, none⟩)) ?_
   refine ru 9 (.int .i64 (j : Nat)) (fun w' hw => ?_) ?_
   · have s2 := (HX34.out.low hw).cells
     simp [execOp, go_sem, s2.1]
   refine ru 10 (.pointer (some ⟨pb, po + j, none⟩)) (fun w' hw => ?_) ?_
   · simp [execOp, go_sem, hjp, hjp']
   refine ru 11 (.int .i64 pj) (fun w' hw => ?_) ?_
   · have p2 := (hw.cell (p := ⟨pb, po + j, none⟩) (show pb < w4.heap.size by omega)).trans P2.out
     simp [execOp, go_sem, p2]
   refine pu 12 (.bool (decide (pj < pi))) ?_
   refine du (fun wz hS => ?_)
   have hzz := hS.size
   have hbz : Below w.heap.size w wz := HB4.out.trans (hS.mono (by omega))
   have HBZ := Lh hbz
   have HSz := Lh hS
   clear hS hbz
   go_wp2_with fail
   go_ret
   exact rl_fin (r' := .gt) Hr.out.symm HBZ.out
 rw [if_neg hp1] at hres
 go_upto_region 15 with fail
 refine bu 13 (fun w' => Below w4.heap.size w4 w') (fun wd hwd hbd => ?_) ?_
 · exact hbd
 refine pu 0 (.pointer (some ⟨w.heap.size, 1, none⟩)) ?_
 refine ru 1 (.slice (some ⟨pb, po, none⟩) o.prec.length cp) (fun w' hw => ?_) ?_
 · have ob := HX14.out.low hw
   have o1 : w'.cell? ⟨w.heap.size, 1, none⟩ = some (.slice (some ⟨pb, po, none⟩) o.prec.length cp) := ob.cell 1
   simp [execOp, go_sem, o1]
 refine pu 2 (.pointer (some ⟨w.heap.size + 1, 0, none⟩)) ?_
 refine ru 3 (.int .i64 (i : Nat)) (fun w' hw => ?_) ?_
 · have s1 := (HX24.out.low hw).cells
   simp [execOp, go_sem, s1.1]
 refine ru 4 (.pointer (some ⟨pb, po + i, none⟩)) (fun w' hw => ?_) ?_
 · simp [execOp, go_sem, hip, hip']
 refine ru 5 (.int .i64 pi) (fun w' hw => ?_) ?_
 · have p1 := (hw.cell (p := ⟨pb, po + i, none⟩) (show pb < w4.heap.size by omega)).trans P1.out
   simp [execOp, go_sem, p1]
 refine pu 6 (.pointer (some ⟨w.heap.size, 1, none⟩)) ?_
 refine ru 7 (.slice (some ⟨pb, po, none⟩) o.prec.length cp) (fun w' hw => ?_) ?_
 · have ob := HX14.out.low hw
   have o1 : w'.cell? ⟨w.heap.size, 1, none⟩ = some (.slice (some ⟨pb, po, none⟩) o.prec.length cp) := ob.cell 1
   simp [execOp, go_sem, o1]
 refine pu 8 (.pointer (some ⟨w.heap.size + 1 + 1, 0, none⟩)) ?_
 refine ru 9 (.int .i64 (j : Nat)) (fun w' hw => ?_) ?_
 · have s2 := (HX34.out.low hw).cells
   simp [execOp, go_sem, s2.1]
 refine ru 10 (.pointer (some ⟨pb, po + j, none⟩)) (fun w' hw => ?_) ?_
 · simp [execOp, go_sem, hjp, hjp']
 refine ru 11 (.int .i64 pj) (fun w' hw => ?_) ?_
 · have p2 := (hw.cell (p := ⟨pb, po + j, none⟩) (show pb < w4.heap.size by omega)).trans P2.out
   simp [execOp, go_sem, p2]
 refine pu 12 (.bool (decide (pj < pi))) ?_
 refine du (fun wz hS => ?_)
 have hzz := hS.size
 have hbz : Below w.heap.size w wz := HB4.out.trans (hS.mono (by omega))
 have HBZ := Lh hbz
 have HSz := Lh hS
 clear hS hbz
 by_cases hp2 : pi < pj
 · rw [if_pos hp2] at hres
   have Hr := Lh hres
   clear hres hij
   go_upto_region 17 with fail
   refine bu 13 (fun w' => Below w4.heap.size w4 w') (fun wd hwd hbd => ?_) ?_
   · exact HSz.out.trans (hbd.mono HSz.out.size)
   refine pu 0 (.pointer (some ⟨w.heap.size, 1, none⟩)) ?_
   refine ru 1 (.slice (some ⟨pb, po, none⟩) o.prec.length cp) (fun w' hw => ?_) ?_
   · have ob := HX14.out.low hw
     have o1 : w'.cell? ⟨w.heap.size, 1, none⟩ = some (.slice (some ⟨pb, po, none⟩) o.prec.length cp) := ob.cell 1
     simp [execOp, go_sem, o1]
   refine pu 2 (.pointer (some ⟨w.heap.size + 1, 0, none⟩)) ?_
   refine ru 3 (.int .i64 (i : Nat)) (fun w' hw => ?_) ?_
   · have s1 := (HX24.out.low hw).cells
     simp [execOp, go_sem, s1.1]
   refine ru 4 (.pointer (some ⟨pb, po + i, none⟩)) (fun w' hw => ?_) ?_
   · simp [execOp, go_sem, hip, hip']
   refine ru 5 (.int .i64 pi) (fun w' hw => ?_) ?_
   · have p1 := (hw.cell (p := ⟨pb, po + i, none⟩) (show pb < w4.heap.size by omega)).trans P1.out
     simp [execOp, go_sem, p1]
   refine pu 6 (.pointer (some ⟨w.heap.size, 1, none⟩)) ?_
   refine ru 7 (.slice (some ⟨pb, po, none⟩) o.prec.length cp) (fun w' hw => ?_) ?_
   · have ob := HX14.out.low hw
     have o1 : w'.cell? ⟨w.heap.size, 1, none⟩ = some (.slice (some ⟨pb, po, none⟩) o.prec.length cp) := ob.cell 1
     simp [execOp, go_sem, o1]
   refine pu 8 (.pointer (some ⟨w.heap.size + 1 + 1, 0, none⟩)) ?_
   refine ru 9 (.int .i64 (j : Nat)) (fun w' hw => ?_) ?_
   · have s2 := (HX34.out.low hw).cells
     simp [execOp, go_sem, s2.1]
   refine ru 10 (.pointer (some ⟨pb, po + j, none⟩)) (fun w' hw => ?_) ?_
   · simp [execOp, go_sem, hjp, hjp']
   refine ru 11 (.int .i64 pj) (fun w' hw => ?_) ?_
   · have p2 := (hw.cell (p := ⟨pb, po + j, none⟩) (show pb < w4.heap.size by omega)).trans P2.out
     simp [execOp, go_sem, p2]
   refine pu 12 (.bool (decide (pi < pj))) ?_
   refine du (fun wz hS => ?_)
   have hzz := hS.size
   have hbz : Below w.heap.size w wz := HB4.out.trans (hS.mono (by omega))
   have HBZ := Lh hbz
   have HSz := Lh hS
   clear hS hbz
   go_wp2_with fail
   go_ret
   exact rl_fin (r' := .lt) Hr.out.symm HBZ.out
 rw [if_neg hp2] at hres
 have Hr := Lh hres
 clear hres hij
 go_upto_region 17 with fail
 refine bu 13 (fun w' => Below w4.heap.size w4 w') (fun wd hwd hbd => ?_) ?_
 · exact HSz.out.trans (hbd.mono HSz.out.size)
 refine pu 0 (.pointer (some ⟨w.heap.size, 1, none⟩)) ?_
 refine ru 1 (.slice (some ⟨pb, po, none⟩) o.prec.length cp) (fun w' hw => ?_) ?_
 · have ob := HX14.out.low hw
   have o1 : w'.cell? ⟨w.heap.size, 1, none⟩ = some (.slice (some ⟨pb, po, none⟩) o.prec.length cp) := ob.cell 1
   simp [execOp, go_sem, o1]
 refine pu 2 (.pointer (some ⟨w.heap.size + 1, 0, none⟩)) ?_
 refine ru 3 (.int .i64 (i : Nat)) (fun w' hw => ?_) ?_
 · have s1 := (HX24.out.low hw).cells
   simp [execOp, go_sem, s1.1]
 refine ru 4 (.pointer (some ⟨pb, po + i, none⟩)) (fun w' hw => ?_) ?_
 · simp [execOp, go_sem, hip, hip']
 refine ru 5 (.int .i64 pi) (fun w' hw => ?_) ?_
 · have p1 := (hw.cell (p := ⟨pb, po + i, none⟩) (show pb < w4.heap.size by omega)).trans P1.out
   simp [execOp, go_sem, p1]
 refine pu 6 (.pointer (some ⟨w.heap.size, 1, none⟩)) ?_
 refine ru 7 (.slice (some ⟨pb, po, none⟩) o.prec.length cp) (fun w' hw => ?_) ?_
 · have ob := HX14.out.low hw
   have o1 : w'.cell? ⟨w.heap.size, 1, none⟩ = some (.slice (some ⟨pb, po, none⟩) o.prec.length cp) := ob.cell 1
   simp [execOp, go_sem, o1]
 refine pu 8 (.pointer (some ⟨w.heap.size + 1 + 1, 0, none⟩)) ?_
 refine ru 9 (.int .i64 (j : Nat)) (fun w' hw => ?_) ?_
 · have s2 := (HX34.out.low hw).cells
   simp [execOp, go_sem, s2.1]
 refine ru 10 (.pointer (some ⟨pb, po + j, none⟩)) (fun w' hw => ?_) ?_
 · simp [execOp, go_sem, hjp, hjp']
 refine ru 11 (.int .i64 pj) (fun w' hw => ?_) ?_
 · have p2 := (hw.cell (p := ⟨pb, po + j, none⟩) (show pb < w4.heap.size by omega)).trans P2.out
   simp [execOp, go_sem, p2]
 refine pu 12 (.bool (decide (pi < pj))) ?_
 refine du (fun wz hS => ?_)
 have hzz := hS.size
 have hbz : Below w.heap.size w wz := HB4.out.trans (hS.mono (by omega))
 have HBZ := Lh hbz
 have HSz := Lh hS
 clear hS hbz
 go_wp2_with fail
 go_ret
 exact rl_fin (r' := .no) Hr.out.symm HBZ.out
theorem reasonN_any {ar : Int → Option Nat} {o : Od} (hk : KOd ar o) (f g : Int) (xs ys : List Tm) (v1 v2 : Value) (Ap Aw : Option Addr) (cp cw : Nat) (B : Nat) (w : World) (hw1 : wfT ar (.mk f xs)) (hw2 : wfT ar (.mk g ys)) (hz : sizeT (.mk f xs) + sizeT (.mk g ys) ≤ 100000) (ho : OdV w B o Ap Aw cp cw) (hr1 : Rd w B (.sl 2 (encTms xs)) v1) (hr2 : Rd w B (.sl 2 (encTms ys)) v2) (hB : B ≤ w.heap.size) (hf : f < 0) (hg : 0 ≤ g) :
 Calls Tryz.prog 79 #[.agg #[.bool o.lpo, .slice Ap o.prec.length cp, .slice Aw o.weights.length cw, .int .i64 o.var], .agg #[.int .i64 f, v1], .agg #[.int .i64 g, v2]] w (RlRes (krsn o.kp f xs g ys (klex o.kp xs ys)) w) := by
 have hsw := fun (w' : World) (hb : Below w.heap.size w w') => reasonV_any hk g f ys xs v2 v1 Ap Aw cp cw B w' hw2 hw1 (by omega) (ho.low hb hB) (hr2.low hb hB) (hr1.low hb hB) (by have := hb.size; omega) hf
 have htu : krsn o.kp g ys f xs (klex o.kp ys xs) = (krsn o.kp f xs g ys (klex o.kp xs ys)).turn := krsn_turn o.kp (fun e => by omega)
 have hg1 : ¬ g < 0 := by omega
 rw [htu] at hsw
 have Hsw := Lh hsw
 clear hsw htu
 obtain ⟨A1, c1, rfl, -, hn1, -⟩ := hr1.tm_form
 obtain ⟨A2, c2, rfl, -, hn2, -⟩ := hr2.tm_form
 obtain ⟨a, ha⟩ : ∃ a, wT o.kp (.mk f xs) = a := ⟨_, rfl⟩
 obtain ⟨b, hb⟩ : ∃ b, wT o.kp (.mk g ys) = b := ⟨_, rfl⟩
 have hzw1 := wT_le hk _ hw1
 have hzw2 := wT_le hk _ hw2
 have hca := fun (w' : World) (hb : Below w.heap.size w w') => weigh_any hk f xs (.slice A1 xs.length c1) Ap Aw cp cw B w' hw1 (by omega) (ho.low hb hB) (hr1.low hb hB) (by have := hb.size; omega)
 have hcb := fun (w' : World) (hb : Below w.heap.size w w') => weigh_any hk g ys (.slice A2 ys.length c2) Ap Aw cp cw B w' hw2 (by omega) (ho.low hb hB) (hr2.low hb hB) (by have := hb.size; omega)
 rw [ha] at hca hzw1
 rw [hb] at hcb hzw2
 have Hca := Lh hca
 have Hcb := Lh hcb
 have Ha := Lh ha
 have Hb := Lh hb
 have HR1 := Lh hr1
 have HR2 := Lh hr2
 have HO := Lh ho
 have Hk := Lh hk
 have Hw1 := Lh hw1
 have Hw2 := Lh hw2
 clear hca hcb ha hb hr1 hr2 ho hk hw1 hw2 hzw1 hzw2
 obtain ⟨res, hres⟩ : ∃ res, krsn o.kp f xs g ys (klex o.kp xs ys) = res := ⟨_, rfl⟩
 rw [hres]
 unfold krsn at hres
 rw [Ha.out, Hb.out] at hres
 have Hres := Lh hres
 clear hres
 go_enter Tryz.func79, Tryz.ntmps79
 go_upto_region 1 with fail
 obtain ⟨hx1, hx2, hx3, hB3, hz3⟩ := boxes3 w (.cells #[.bool o.lpo, .slice Ap o.prec.length cp, .slice Aw o.weights.length cw, .int .i64 o.var] 38) (.cells #[.int .i64 f, .slice A1 xs.length c1] 32) (.cells #[.int .i64 g, .slice A2 ys.length c2] 32)
 generalize ((w.alloc (.cells #[.bool o.lpo, .slice Ap o.prec.length cp, .slice Aw o.weights.length cw, .int .i64 o.var] 38)).alloc (.cells #[.int .i64 f, .slice A1 xs.length c1] 32)).alloc (.cells #[.int .i64 g, .slice A2 ys.length c2] 32) = w3 at hx1 hx2 hx3 hB3 hz3 ⊢
 have hx1 : BoxN w.heap.size 38 #[.bool o.lpo, .slice Ap o.prec.length cp, .slice Aw o.weights.length cw, .int .i64 o.var] w3 := hx1
 have hx2 : Box2 (w.heap.size + 1) 32 (.int .i64 f) (.slice A1 xs.length c1) w3 := hx2
 have hx3 : Box2 (w.heap.size + 1 + 1) 32 (.int .i64 g) (.slice A2 ys.length c2) w3 := hx3
 have HB3 := Lh hB3
 have HX1 := Lh hx1
 have HX2 := Lh hx2
 have HX3 := Lh hx3
 have hz3l : w.heap.size + 1 + 1 < w3.heap.size := by omega
 clear hx1 hx2 hx3 hB3 hz3
 refine bu 8 (fun w' => Below w3.heap.size w3 w') (fun wd hwd hbd => ?_) ?_
 · exact hwd ▸ hbd
 refine ru 0 (.agg #[.bool o.lpo, .slice Ap o.prec.length cp, .slice Aw o.weights.length cw, .int .i64 o.var]) (fun w' hw => ?_) ?_
 · have ob := HX1.out.low hw
   have o0 : w'.cell? ⟨w.heap.size, 0, none⟩ = some (.bool o.lpo) := ob.cell 0
   have o1 : w'.cell? ⟨w.heap.size, 1, none⟩ = some (.slice Ap o.prec.length cp) := ob.cell 1
   have o2 : w'.cell? ⟨w.heap.size, 2, none⟩ = some (.slice Aw o.weights.length cw) := ob.cell 2
   have o3 : w'.cell? ⟨w.heap.size, 3, none⟩ = some (.int .i64 o.var) := ob.cell 3
   simp [execOp, go_sem, o0, o1, o2, o3]
 refine ru 1 (.agg #[.int .i64 f, .slice A1 xs.length c1]) (fun w' hw => ?_) ?_
 · have s1 := (HX2.out.low hw).cells
   simp [execOp, go_sem, s1.1, s1.2.1]
 refine cu 2 (.int .i64 (a : Nat)) (fun w' hw => (Hca.out w' (HB3.out.trans (hw.mono (by omega)))).mono ?_) ?_
 · rintro e w2 ⟨rfl, hb⟩
   exact ⟨rfl, hw.trans (hb.mono hw.size)⟩
 refine ru 3 (.agg #[.bool o.lpo, .slice Ap o.prec.length cp, .slice Aw o.weights.length cw, .int .i64 o.var]) (fun w' hw => ?_) ?_
 · have ob := HX1.out.low hw
   have o0 : w'.cell? ⟨w.heap.size, 0, none⟩ = some (.bool o.lpo) := ob.cell 0
   have o1 : w'.cell? ⟨w.heap.size, 1, none⟩ = some (.slice Ap o.prec.length cp) := ob.cell 1
   have o2 : w'.cell? ⟨w.heap.size, 2, none⟩ = some (.slice Aw o.weights.length cw) := ob.cell 2
   have o3 : w'.cell? ⟨w.heap.size, 3, none⟩ = some (.int .i64 o.var) := ob.cell 3
   simp [execOp, go_sem, o0, o1, o2, o3]
 refine ru 4 (.agg #[.int .i64 g, .slice A2 ys.length c2]) (fun w' hw => ?_) ?_
 · have s2 := (HX3.out.low hw).cells
   simp [execOp, go_sem, s2.1, s2.2.1]
 refine cu 5 (.int .i64 (b : Nat)) (fun w' hw => (Hcb.out w' (HB3.out.trans (hw.mono (by omega)))).mono ?_) ?_
 · rintro e w2 ⟨rfl, hb⟩
   exact ⟨rfl, hw.trans (hb.mono hw.size)⟩
 refine pu 6 (.int .i64 (a : Nat)) ?_
 refine pu 7 (.int .i64 (b : Nat)) ?_
 refine du (fun wz hS => ?_)
 obtain ⟨w4, hw4⟩ : ∃ w4, wz = w4 := ⟨_, rfl⟩
 rw [hw4] at hS ⊢
 have hz4 := hS.size
 have HB4 := Lh (HB3.out.trans (hS.mono (by omega)))
 have hob := HX1.out.low hS
 have hsb := HX2.out.low hS
 have htb := HX3.out.low hS
 have HX14 := Lh hob
 have HX24 := Lh hsb
 have HX34 := Lh htb
 have o0 : w4.cell? ⟨w.heap.size, 0, none⟩ = some (.bool o.lpo) := hob.cell 0
 have o1 : w4.cell? ⟨w.heap.size, 1, none⟩ = some (.slice Ap o.prec.length cp) := hob.cell 1
 have o2 : w4.cell? ⟨w.heap.size, 2, none⟩ = some (.slice Aw o.weights.length cw) := hob.cell 2
 have o3 : w4.cell? ⟨w.heap.size, 3, none⟩ = some (.int .i64 o.var) := hob.cell 3
 obtain ⟨s1, s2, -⟩ := hsb.cells
 obtain ⟨t1, t2, -⟩ := htb.cells
 clear hw4 hob hsb htb hS HX1 HX2 HX3
 by_cases h1 : b < a
 · have hr : res = .gt := by rw [← Hres.out, if_pos h1]
   have h1' : ¬ a < b := by omega
   have Hr := Lh hr
   clear hr
   go_wp2_with fail
   go_ret
   exact ⟨by rw [Hr.out]; rfl, HB4.out⟩
 by_cases h2 : a < b
 · have hr : res = .lt := by rw [← Hres.out, if_neg h1, if_pos h2]
   have Hr := Lh hr
   clear hr
   go_wp2_with fail
   go_ret
   exact ⟨by rw [Hr.out]; rfl, HB4.out⟩
 have hres := Hres.out
 rw [if_neg h1, if_neg h2] at hres
 have hsw := Hsw.out w4 HB4.out
 have hr0 : krsn o.kp f xs g ys (klex o.kp xs ys) = res := by unfold krsn; rw [Ha.out, Hb.out]; exact Hres.out
 rw [hr0] at hsw
 have Hsw4 := Lh hsw
 clear hsw hr0 hres
 go_wp2_with fail
 refine Hsw4.out.mono ?_
 rintro e w5 ⟨rfl, hb5⟩
 have Hb5 := Lh hb5
 clear hb5
 go_wp2_with fail
 refine (turned_any res.turn w5).mono ?_
 rintro e w6 ⟨rfl, rfl⟩
 rw [Rl.turn_turn]
 go_wp2_with fail
 go_ret
 exact rl_fin rfl (HB4.out.trans (Hb5.out.mono (by omega)))
def kfB : Rl → Bool → Bool → Rl
 | .gt, _, true => .gt
 | .lt, true, _ => .lt
 | _, _, _ => .no
theorem kfin_B {s t : Tm} {r : Rl} {p q : Bool} (hne : s ≠ t) (hp : p = true ↔ leV s t) (hq : q = true ↔ leV t s) : kfin s t r = kfB r p q := by
 unfold kfin
 rw [if_neg hne, ← hp, ← hq]
 cases r <;> cases p <;> cases q <;> simp [kfB]
theorem compare_any {ar : Int → Option Nat} {o : Od} (hk : KOd ar o) (Ap Aw : Option Addr) (cp cw : Nat) (D : Nat) : ∀ (f g : Int) (xs ys : List Tm) (v1 v2 : Value) (B : Nat) (w : World), sizeTs xs < D → wfT ar (.mk f xs) → wfT ar (.mk g ys) → sizeT (.mk f xs) + sizeT (.mk g ys) ≤ 100000 → OdV w B o Ap Aw cp cw → Rd w B (.sl 2 (encTms xs)) v1 → Rd w B (.sl 2 (encTms ys)) v2 → B ≤ w.heap.size →
 Calls Tryz.prog 48 #[.agg #[.bool o.lpo, .slice Ap o.prec.length cp, .slice Aw o.weights.length cw, .int .i64 o.var], .agg #[.int .i64 f, v1], .agg #[.int .i64 g, v2]] w (RlRes (kcmp o.kp (.mk f xs) (.mk g ys)) w) := by
 induction D with
 | zero => intro f g xs ys v1 v2 B w h; omega
 | succ D ih =>
 intro f g xs ys v1 v2 B w hD hw1 hw2 hz ho hr1 hr2 hB
 obtain ⟨A1, c1, rfl, -, hn1, -⟩ := hr1.tm_form
 obtain ⟨A2, c2, rfl, -, hn2, -⟩ := hr2.tm_form
 have hrs : ∀ w', Below w.heap.size w w' → Calls Tryz.prog 79 #[.agg #[.bool o.lpo, .slice Ap o.prec.length cp, .slice Aw o.weights.length cw, .int .i64 o.var], .agg #[.int .i64 f, .slice A1 xs.length c1], .agg #[.int .i64 g, .slice A2 ys.length c2]] w' (RlRes (krsn o.kp f xs g ys (klex o.kp xs ys)) w') := by
  intro w' hb
  have hs := hb.size
  by_cases hg : g < 0
  · exact reasonV_any hk f g xs ys _ _ Ap Aw cp cw B w' hw1 hw2 hz (ho.low hb hB) (hr1.low hb hB) (hr2.low hb hB) (by omega) hg
  by_cases hf : f < 0
  · exact reasonN_any hk f g xs ys _ _ Ap Aw cp cw B w' hw1 hw2 hz (ho.low hb hB) (hr1.low hb hB) (hr2.low hb hB) (by omega) hf (by omega)
  obtain ⟨i, rfl⟩ : ∃ i : Nat, f = (i : Int) := ⟨f.toNat, by omega⟩
  obtain ⟨j, rfl⟩ : ∃ j : Nat, g = (j : Int) := ⟨g.toNat, by omega⟩
  refine reasonF_any hk i j xs ys _ _ Ap Aw cp cw B w' hw1 hw2 hz (ho.low hb hB) (hr1.low hb hB) (hr2.low hb hB) (by omega) ?_
  intro f1 f2 us1 us2 h1 h2 u1 u2 w2 hb2 hu1 hu2
  have e1 := sizeT_arg (f := (i : Int)) h1
  have e2 := sizeT_arg (f := (j : Int)) h2
  have e3 : sizeT (.mk (i : Int) xs) = sizeTs xs + 1 := by rw [sizeT]
  have e4 : sizeT (.mk f1 us1) = sizeTs us1 + 1 := by rw [sizeT]
  exact ih f1 f2 us1 us2 u1 u2 B w2 (by omega) (hw1.args h1) (hw2.args h2) (by omega) (ho.low (hb.trans (hb2.mono hs)) hB) hu1 hu2 (by have := hb2.size; omega)
 have hsa := fun (w' : World) (hb : Below w.heap.size w w') => same_tm f g xs ys (.slice A1 xs.length c1) (.slice A2 ys.length c2) B w' (hr1.low hb hB) (hr2.low hb hB) (by have := hb.size; omega)
 have hcn := fun (w' : World) (hb : Below w.heap.size w w') => counts_any f g xs ys (.slice A1 xs.length c1) (.slice A2 ys.length c2) B w' (by omega) (hr1.low hb hB) (hr2.low hb hB) (by have := hb.size; omega)
 obtain ⟨rr, hrr⟩ : ∃ rr, krsn o.kp f xs g ys (klex o.kp xs ys) = rr := ⟨_, rfl⟩
 rw [hrr] at hrs
 obtain ⟨res, hres⟩ : ∃ res, kcmp o.kp (.mk f xs) (.mk g ys) = res := ⟨_, rfl⟩
 rw [hres]
 rw [kcmp, hrr] at hres
 have Hrs := Lh hrs
 have Hsa := Lh hsa
 have Hcn := Lh hcn
 have Hres := Lh hres
 clear hrs hsa hcn hres hrr ih ho hr1 hr2 hk hw1 hw2
 go_enter Tryz.func48, Tryz.ntmps48
 go_upto_region 1 with fail
 obtain ⟨hx1, hx2, hx3, hB3, hz3⟩ := boxes3 w (.cells #[.bool o.lpo, .slice Ap o.prec.length cp, .slice Aw o.weights.length cw, .int .i64 o.var] 38) (.cells #[.int .i64 f, .slice A1 xs.length c1] 32) (.cells #[.int .i64 g, .slice A2 ys.length c2] 32)
 generalize ((w.alloc (.cells #[.bool o.lpo, .slice Ap o.prec.length cp, .slice Aw o.weights.length cw, .int .i64 o.var] 38)).alloc (.cells #[.int .i64 f, .slice A1 xs.length c1] 32)).alloc (.cells #[.int .i64 g, .slice A2 ys.length c2] 32) = w3 at hx1 hx2 hx3 hB3 hz3 ⊢
 have hx1 : BoxN w.heap.size 38 #[.bool o.lpo, .slice Ap o.prec.length cp, .slice Aw o.weights.length cw, .int .i64 o.var] w3 := hx1
 have hx2 : Box2 (w.heap.size + 1) 32 (.int .i64 f) (.slice A1 xs.length c1) w3 := hx2
 have hx3 : Box2 (w.heap.size + 1 + 1) 32 (.int .i64 g) (.slice A2 ys.length c2) w3 := hx3
 have HB3 := Lh hB3
 have HX1 := Lh hx1
 have HX2 := Lh hx2
 have HX3 := Lh hx3
 have hz3l : w.heap.size + 1 + 1 < w3.heap.size := by omega
 obtain ⟨s1, s2, -⟩ := hx2.cells
 obtain ⟨t1, t2, -⟩ := hx3.cells
 clear hx1 hx2 hx3 hB3 hz3
 go_wp2_with fail
 refine (Hsa.out w3 HB3.out).mono ?_
 rintro e w4 ⟨rfl, hb4⟩
 have hB4 := HB3.out.trans (hb4.mono (by omega))
 obtain ⟨s1, s2, -⟩ := (HX2.out.low hb4).cells
 obtain ⟨t1, t2, -⟩ := (HX3.out.low hb4).cells
 have HB4 := Lh hB4
 have Hb4 := Lh hb4
 have hz4 := hb4.size
 clear hb4 hB4
 cases hq : eqB (.mk f xs) (.mk g ys) with
 | true =>
   have hr : res = .eq := by rw [← Hres.out, (eqB_iff _ _).1 hq, kfin_self]
   have Hr := Lh hr
   clear hr hq
   go_wp2_with fail
   go_ret
   exact rl_fin (r' := .eq) Hr.out HB4.out
 | false =>
   have hne : Tm.mk f xs ≠ .mk g ys := fun e => by rw [(eqB_iff _ _).2 e] at hq; cases hq
   have Hne := Lh hne
   clear hne hq
   go_wp2_with fail
   refine (Hcn.out w4 HB4.out).mono ?_
   rintro e w5 ⟨p, q, rfl, hp, hq, hb5⟩
   have hB5 := HB4.out.trans (hb5.mono (by omega))
   have hb35 : Below w3.heap.size w3 w5 := Hb4.out.trans (hb5.mono hz4)
   have hob := HX1.out.low hb35
   obtain ⟨s1, s2, -⟩ := (HX2.out.low hb35).cells
   obtain ⟨t1, t2, -⟩ := (HX3.out.low hb35).cells
   have o0 : w5.cell? ⟨w.heap.size, 0, none⟩ = some (.bool o.lpo) := hob.cell 0
   have o1 : w5.cell? ⟨w.heap.size, 1, none⟩ = some (.slice Ap o.prec.length cp) := hob.cell 1
   have o2 : w5.cell? ⟨w.heap.size, 2, none⟩ = some (.slice Aw o.weights.length cw) := hob.cell 2
   have o3 : w5.cell? ⟨w.heap.size, 3, none⟩ = some (.int .i64 o.var) := hob.cell 3
   have hfin : res = kfB rr p q := by rw [← Hres.out]; exact kfin_B Hne.out hp hq
   have Hfin := Lh hfin
   have HB5 := Lh hB5
   have hz5 := hb5.size
   clear hfin hp hq hb5 hB5 hb35 hob
   go_wp2_with fail
   refine (Hrs.out w5 HB5.out).mono ?_
   rintro e w6 ⟨rfl, hb6⟩
   have HB6 := Lh (HB5.out.trans (hb6.mono (by omega)))
   clear hb6 o0 o1 o2 o3 s1 s2 t1 t2
   cases rr <;> cases p <;> cases q
   all_goals
    simp only [Rl.int]
    go_wp2_with fail
    go_ret
    exact rl_fin Hfin.out HB6.out
theorem kboCmp_any {ar : Int → Option Nat} {o : Od} (hk : KOd ar o) (f g : Int) (xs ys : List Tm) (v1 v2 : Value) (Ap Aw : Option Addr) (cp cw : Nat) (B : Nat) (w : World) (hw1 : wfT ar (.mk f xs)) (hw2 : wfT ar (.mk g ys)) (hz : sizeT (.mk f xs) + sizeT (.mk g ys) ≤ 100000) (ho : OdV w B o Ap Aw cp cw) (hr1 : Rd w B (.sl 2 (encTms xs)) v1) (hr2 : Rd w B (.sl 2 (encTms ys)) v2) (hB : B ≤ w.heap.size) :
 Calls Tryz.prog 23 #[.agg #[.bool o.lpo, .slice Ap o.prec.length cp, .slice Aw o.weights.length cw, .int .i64 o.var], .agg #[.int .i64 f, v1], .agg #[.int .i64 g, v2]] w (RlRes (kcmp o.kp (.mk f xs) (.mk g ys)) w) := by
 obtain ⟨A1, c1, rfl, -, hn1, -⟩ := hr1.tm_form
 obtain ⟨A2, c2, rfl, -, hn2, -⟩ := hr2.tm_form
 have hk1 := fun (w' : World) (hb : Below w.heap.size w w') => knowsK_any hk.knows hk.lpo (sizeTs xs + 1) f xs (.slice A1 xs.length c1) Ap Aw cp cw B w' (Nat.lt_succ_self _) hw1 (ho.low hb hB) (hr1.low hb hB) (by have := hb.size; omega)
 have hk2 := fun (w' : World) (hb : Below w.heap.size w w') => knowsK_any hk.knows hk.lpo (sizeTs ys + 1) g ys (.slice A2 ys.length c2) Ap Aw cp cw B w' (Nat.lt_succ_self _) hw2 (ho.low hb hB) (hr2.low hb hB) (by have := hb.size; omega)
 have hcm := fun (w' : World) (hb : Below w.heap.size w w') => compare_any hk Ap Aw cp cw (sizeTs xs + 1) f g xs ys (.slice A1 xs.length c1) (.slice A2 ys.length c2) B w' (Nat.lt_succ_self _) hw1 hw2 hz (ho.low hb hB) (hr1.low hb hB) (hr2.low hb hB) (by have := hb.size; omega)
 obtain ⟨res, hres⟩ : ∃ res, kcmp o.kp (.mk f xs) (.mk g ys) = res := ⟨_, rfl⟩
 rw [hres] at hcm ⊢
 have Hk1 := Lh hk1
 have Hk2 := Lh hk2
 have Hcm := Lh hcm
 clear hk1 hk2 hcm hres ho hr1 hr2 hk hw1 hw2
 go_enter Tryz.func23, Tryz.ntmps23
 go_upto_region 1 with fail
 obtain ⟨hx1, hx2, hx3, hB3, hz3⟩ := boxes3 w (.cells #[.bool o.lpo, .slice Ap o.prec.length cp, .slice Aw o.weights.length cw, .int .i64 o.var] 38) (.cells #[.int .i64 f, .slice A1 xs.length c1] 32) (.cells #[.int .i64 g, .slice A2 ys.length c2] 32)
 generalize ((w.alloc (.cells #[.bool o.lpo, .slice Ap o.prec.length cp, .slice Aw o.weights.length cw, .int .i64 o.var] 38)).alloc (.cells #[.int .i64 f, .slice A1 xs.length c1] 32)).alloc (.cells #[.int .i64 g, .slice A2 ys.length c2] 32) = w3 at hx1 hx2 hx3 hB3 hz3 ⊢
 have hx1 : BoxN w.heap.size 38 #[.bool o.lpo, .slice Ap o.prec.length cp, .slice Aw o.weights.length cw, .int .i64 o.var] w3 := hx1
 have hx2 : Box2 (w.heap.size + 1) 32 (.int .i64 f) (.slice A1 xs.length c1) w3 := hx2
 have hx3 : Box2 (w.heap.size + 1 + 1) 32 (.int .i64 g) (.slice A2 ys.length c2) w3 := hx3
 have HB3 := Lh hB3
 have HX1 := Lh hx1
 have HX2 := Lh hx2
 have HX3 := Lh hx3
 have hz3l : w.heap.size + 1 + 1 < w3.heap.size := by omega
 clear hx1 hx2 hx3 hB3 hz3
 have hob := HX1.out.low (Below.refl _ w3)
 obtain ⟨s1, s2, -⟩ := (HX2.out.low (Below.refl _ w3)).cells
 obtain ⟨t1, t2, -⟩ := (HX3.out.low (Below.refl _ w3)).cells
 have o0 := show World.cell? _ ⟨w.heap.size, 0, none⟩ = some (.bool o.lpo) from hob.cell 0
 have o1 := show World.cell? _ ⟨w.heap.size, 1, none⟩ = some (.slice Ap o.prec.length cp) from hob.cell 1
 have o2 := show World.cell? _ ⟨w.heap.size, 2, none⟩ = some (.slice Aw o.weights.length cw) from hob.cell 2
 have o3 := show World.cell? _ ⟨w.heap.size, 3, none⟩ = some (.int .i64 o.var) from hob.cell 3
 clear hob
 go_wp2_with fail
 refine (Hk1.out w3 HB3.out).mono ?_
 rintro e w4 ⟨rfl, hb4⟩
 have HB4 := Lh (HB3.out.trans (hb4.mono (by omega)))
 have Hb4 := Lh hb4
 have hz4 := hb4.size
 clear o0 o1 o2 o3 s1 s2 t1 t2
 have hob := HX1.out.low hb4
 obtain ⟨s1, s2, -⟩ := (HX2.out.low hb4).cells
 obtain ⟨t1, t2, -⟩ := (HX3.out.low hb4).cells
 have o0 := show World.cell? _ ⟨w.heap.size, 0, none⟩ = some (.bool o.lpo) from hob.cell 0
 have o1 := show World.cell? _ ⟨w.heap.size, 1, none⟩ = some (.slice Ap o.prec.length cp) from hob.cell 1
 have o2 := show World.cell? _ ⟨w.heap.size, 2, none⟩ = some (.slice Aw o.weights.length cw) from hob.cell 2
 have o3 := show World.cell? _ ⟨w.heap.size, 3, none⟩ = some (.int .i64 o.var) from hob.cell 3
 clear hob
 clear hb4
 go_wp2_with fail
 refine (Hk2.out w4 HB4.out).mono ?_
 rintro e w5 ⟨rfl, hb5⟩
 have HB5 := Lh (HB4.out.trans (hb5.mono (by omega)))
 have hb35 := Hb4.out.trans (hb5.mono hz4)
 have hz5 := hb5.size
 clear o0 o1 o2 o3 s1 s2 t1 t2
 have hob := HX1.out.low hb35
 obtain ⟨s1, s2, -⟩ := (HX2.out.low hb35).cells
 obtain ⟨t1, t2, -⟩ := (HX3.out.low hb35).cells
 have o0 := show World.cell? _ ⟨w.heap.size, 0, none⟩ = some (.bool o.lpo) from hob.cell 0
 have o1 := show World.cell? _ ⟨w.heap.size, 1, none⟩ = some (.slice Ap o.prec.length cp) from hob.cell 1
 have o2 := show World.cell? _ ⟨w.heap.size, 2, none⟩ = some (.slice Aw o.weights.length cw) from hob.cell 2
 have o3 := show World.cell? _ ⟨w.heap.size, 3, none⟩ = some (.int .i64 o.var) from hob.cell 3
 clear hob
 clear hb5 hb35
 go_wp2_with fail
 refine (Hcm.out w5 HB5.out).mono ?_
 rintro e w6 ⟨rfl, hb6⟩
 have HB6 := Lh (HB5.out.trans (hb6.mono (by omega)))
 clear hb6 o0 o1 o2 o3 s1 s2 t1 t2
 go_wp2_with fail
 go_ret
 exact rl_fin rfl HB6.out
noncomputable def lcmp (pr : Int → Int) (s t : Tm) : Rl := if eqB s t = true then .eq else if lgt pr s t = true then .gt else if lgt pr t s = true then .lt else .no
noncomputable def ocmp (o : Od) (s t : Tm) : Rl := if o.lpo = true then lcmp o.kp.pr s t else kcmp o.kp s t
structure OOd (ar : Int → Option Nat) (o : Od) : Prop where
 knows : Knows ar o
 kbo : o.lpo = false → KOd ar o
theorem lpoCmp_any {ar : Int → Option Nat} {o : Od} (hkn : Knows ar o) (hl : o.lpo = true) (f g : Int) (xs ys : List Tm) (v1 v2 : Value) (Ap Aw : Option Addr) (cp cw : Nat) (B : Nat) (w : World) (hw1 : wfT ar (.mk f xs)) (hw2 : wfT ar (.mk g ys)) (hz : sizeT (.mk f xs) + sizeT (.mk g ys) ≤ 100000) (hlo1 : lowG (.mk f xs) = true) (hlo2 : lowG (.mk g ys) = true)
 (ho : OdV w B o Ap Aw cp cw) (hr1 : Rd w B (.sl 2 (encTms xs)) v1) (hr2 : Rd w B (.sl 2 (encTms ys)) v2) (hB : B ≤ w.heap.size) :
 Calls Tryz.prog 22 #[.agg #[.bool o.lpo, .slice Ap o.prec.length cp, .slice Aw o.weights.length cw, .int .i64 o.var], .agg #[.int .i64 f, v1], .agg #[.int .i64 g, v2]] w (RlRes (lcmp o.kp.pr (.mk f xs) (.mk g ys)) w) := by
 obtain ⟨A1, c1, rfl, -, hn1, -⟩ := hr1.tm_form
 obtain ⟨A2, c2, rfl, -, hn2, -⟩ := hr2.tm_form
 have hk1 := fun (w' : World) (hb : Below w.heap.size w w') => knowsL_any hkn hl (sizeTs xs + 1) f xs (.slice A1 xs.length c1) Ap Aw cp cw B w' (Nat.lt_succ_self _) hw1 (ho.low hb hB) (hr1.low hb hB) (by have := hb.size; omega)
 have hk2 := fun (w' : World) (hb : Below w.heap.size w w') => knowsL_any hkn hl (sizeTs ys + 1) g ys (.slice A2 ys.length c2) Ap Aw cp cw B w' (Nat.lt_succ_self _) hw2 (ho.low hb hB) (hr2.low hb hB) (by have := hb.size; omega)
 have hsm := fun (w' : World) (hb : Below w.heap.size w w') => same_tm f g xs ys (.slice A1 xs.length c1) (.slice A2 ys.length c2) B w' (hr1.low hb hB) (hr2.low hb hB) (by have := hb.size; omega)
 have hov := fun (w' : World) (hb : Below w.heap.size w w') => over_any hkn f g xs ys (.slice A1 xs.length c1) (.slice A2 ys.length c2) Ap Aw cp cw B w' hw1 hw2 hz hlo1 hlo2 (ho.low hb hB) (hr1.low hb hB) (hr2.low hb hB) (by have := hb.size; omega)
 have hvo := fun (w' : World) (hb : Below w.heap.size w w') => over_any hkn g f ys xs (.slice A2 ys.length c2) (.slice A1 xs.length c1) Ap Aw cp cw B w' hw2 hw1 (by omega) hlo2 hlo1 (ho.low hb hB) (hr2.low hb hB) (hr1.low hb hB) (by have := hb.size; omega)
 obtain ⟨res, hres⟩ : ∃ res, lcmp o.kp.pr (.mk f xs) (.mk g ys) = res := ⟨_, rfl⟩
 rw [hres]
 unfold lcmp at hres
 generalize eqB (.mk f xs) (.mk g ys) = b1 at hsm hres
 generalize lgt o.kp.pr (.mk f xs) (.mk g ys) = b2 at hov hres
 generalize lgt o.kp.pr (.mk g ys) (.mk f xs) = b3 at hvo hres
 have Hk1 := Lh hk1
 have Hk2 := Lh hk2
 have Hsm := Lh hsm
 have Hov := Lh hov
 have Hvo := Lh hvo
 have Hres := Lh hres
 clear hk1 hk2 hsm hov hvo hres ho hr1 hr2 hkn hw1 hw2 hz hlo1 hlo2 hl
 go_enter Tryz.func22, Tryz.ntmps22
 go_upto_region 1 with fail
 obtain ⟨hx1, hx2, hx3, hB3, hz3⟩ := boxes3 w (.cells #[.bool o.lpo, .slice Ap o.prec.length cp, .slice Aw o.weights.length cw, .int .i64 o.var] 38) (.cells #[.int .i64 f, .slice A1 xs.length c1] 32) (.cells #[.int .i64 g, .slice A2 ys.length c2] 32)
 generalize ((w.alloc (.cells #[.bool o.lpo, .slice Ap o.prec.length cp, .slice Aw o.weights.length cw, .int .i64 o.var] 38)).alloc (.cells #[.int .i64 f, .slice A1 xs.length c1] 32)).alloc (.cells #[.int .i64 g, .slice A2 ys.length c2] 32) = w3 at hx1 hx2 hx3 hB3 hz3 ⊢
 have hx1 : BoxN w.heap.size 38 #[.bool o.lpo, .slice Ap o.prec.length cp, .slice Aw o.weights.length cw, .int .i64 o.var] w3 := hx1
 have hx2 : Box2 (w.heap.size + 1) 32 (.int .i64 f) (.slice A1 xs.length c1) w3 := hx2
 have hx3 : Box2 (w.heap.size + 1 + 1) 32 (.int .i64 g) (.slice A2 ys.length c2) w3 := hx3
 have HB3 := Lh hB3
 have HX1 := Lh hx1
 have HX2 := Lh hx2
 have HX3 := Lh hx3
 have hz3l : w.heap.size + 1 + 1 < w3.heap.size := by omega
 clear hx1 hx2 hx3 hB3 hz3
 have hob := HX1.out.low (Below.refl _ w3)
 obtain ⟨s1, s2, -⟩ := (HX2.out.low (Below.refl _ w3)).cells
 obtain ⟨t1, t2, -⟩ := (HX3.out.low (Below.refl _ w3)).cells
 have o0 := show World.cell? _ ⟨w.heap.size, 0, none⟩ = some (.bool o.lpo) from hob.cell 0
 have o1 := show World.cell? _ ⟨w.heap.size, 1, none⟩ = some (.slice Ap o.prec.length cp) from hob.cell 1
 have o2 := show World.cell? _ ⟨w.heap.size, 2, none⟩ = some (.slice Aw o.weights.length cw) from hob.cell 2
 have o3 := show World.cell? _ ⟨w.heap.size, 3, none⟩ = some (.int .i64 o.var) from hob.cell 3
 clear hob
 go_wp2_with fail
 refine (Hk1.out w3 HB3.out).mono ?_
 rintro e w4 ⟨rfl, hbn⟩
 have HB4 := Lh (HB3.out.trans (hbn.mono (by omega)))
 have hlo := ((Below.refl w3.heap.size w3)).trans (hbn.mono (by have := ((Below.refl w3.heap.size w3)).size; omega))
 have L4 := Lh hlo
 have z4 := hbn.size
 clear o0 o1 o2 o3 s1 s2 t1 t2 hbn
 have hob := HX1.out.low hlo
 obtain ⟨s1, s2, -⟩ := (HX2.out.low hlo).cells
 obtain ⟨t1, t2, -⟩ := (HX3.out.low hlo).cells
 have o0 := show World.cell? _ ⟨w.heap.size, 0, none⟩ = some (.bool o.lpo) from hob.cell 0
 have o1 := show World.cell? _ ⟨w.heap.size, 1, none⟩ = some (.slice Ap o.prec.length cp) from hob.cell 1
 have o2 := show World.cell? _ ⟨w.heap.size, 2, none⟩ = some (.slice Aw o.weights.length cw) from hob.cell 2
 have o3 := show World.cell? _ ⟨w.heap.size, 3, none⟩ = some (.int .i64 o.var) from hob.cell 3
 clear hob
 clear hlo
 go_wp2_with fail
 refine (Hk2.out w4 HB4.out).mono ?_
 rintro e w5 ⟨rfl, hbn⟩
 have HB5 := Lh (HB4.out.trans (hbn.mono (by omega)))
 have hlo := (L4.out).trans (hbn.mono (by have := (L4.out).size; omega))
 have L5 := Lh hlo
 have z5 := hbn.size
 clear o0 o1 o2 o3 s1 s2 t1 t2 hbn
 have hob := HX1.out.low hlo
 obtain ⟨s1, s2, -⟩ := (HX2.out.low hlo).cells
 obtain ⟨t1, t2, -⟩ := (HX3.out.low hlo).cells
 have o0 := show World.cell? _ ⟨w.heap.size, 0, none⟩ = some (.bool o.lpo) from hob.cell 0
 have o1 := show World.cell? _ ⟨w.heap.size, 1, none⟩ = some (.slice Ap o.prec.length cp) from hob.cell 1
 have o2 := show World.cell? _ ⟨w.heap.size, 2, none⟩ = some (.slice Aw o.weights.length cw) from hob.cell 2
 have o3 := show World.cell? _ ⟨w.heap.size, 3, none⟩ = some (.int .i64 o.var) from hob.cell 3
 clear hob
 clear hlo
 go_wp2_with fail
 refine (Hsm.out w5 HB5.out).mono ?_
 rintro e w6 ⟨rfl, hbn⟩
 have HB6 := Lh (HB5.out.trans (hbn.mono (by omega)))
 have hlo := (L5.out).trans (hbn.mono (by have := (L5.out).size; omega))
 have L6 := Lh hlo
 have z6 := hbn.size
 clear o0 o1 o2 o3 s1 s2 t1 t2 hbn
 have hob := HX1.out.low hlo
 obtain ⟨s1, s2, -⟩ := (HX2.out.low hlo).cells
 obtain ⟨t1, t2, -⟩ := (HX3.out.low hlo).cells
 have o0 := show World.cell? _ ⟨w.heap.size, 0, none⟩ = some (.bool o.lpo) from hob.cell 0
 have o1 := show World.cell? _ ⟨w.heap.size, 1, none⟩ = some (.slice Ap o.prec.length cp) from hob.cell 1
 have o2 := show World.cell? _ ⟨w.heap.size, 2, none⟩ = some (.slice Aw o.weights.length cw) from hob.cell 2
 have o3 := show World.cell? _ ⟨w.heap.size, 3, none⟩ = some (.int .i64 o.var) from hob.cell 3
 clear hob
 clear hlo
 cases b1 with
 | true =>
   have hr : res = .eq := Hres.out.symm
   have Hr := Lh hr
   clear hr
   go_wp2_with fail
   go_ret
   exact ⟨by rw [Hr.out]; rfl, HB6.out⟩
 | false =>
   go_wp2_with fail
   refine (Hov.out w6 HB6.out).mono ?_
   rintro e w7 ⟨rfl, hbn⟩
   have HB7 := Lh (HB6.out.trans (hbn.mono (by omega)))
   have hlo := (L6.out).trans (hbn.mono (by have := (L6.out).size; omega))
   have L7 := Lh hlo
   have z7 := hbn.size
   clear o0 o1 o2 o3 s1 s2 t1 t2 hbn
   have hob := HX1.out.low hlo
   obtain ⟨s1, s2, -⟩ := (HX2.out.low hlo).cells
   obtain ⟨t1, t2, -⟩ := (HX3.out.low hlo).cells
   have o0 := show World.cell? _ ⟨w.heap.size, 0, none⟩ = some (.bool o.lpo) from hob.cell 0
   have o1 := show World.cell? _ ⟨w.heap.size, 1, none⟩ = some (.slice Ap o.prec.length cp) from hob.cell 1
   have o2 := show World.cell? _ ⟨w.heap.size, 2, none⟩ = some (.slice Aw o.weights.length cw) from hob.cell 2
   have o3 := show World.cell? _ ⟨w.heap.size, 3, none⟩ = some (.int .i64 o.var) from hob.cell 3
   clear hob
   clear hlo
   cases b2 with
   | true =>
     have hr : res = .gt := Hres.out.symm
     have Hr := Lh hr
     clear hr
     go_wp2_with fail
     go_ret
     exact ⟨by rw [Hr.out]; rfl, HB7.out⟩
   | false =>
     go_wp2_with fail
     refine (Hvo.out w7 HB7.out).mono ?_
     rintro e w8 ⟨rfl, hbn⟩
     have HB8 := Lh (HB7.out.trans (hbn.mono (by omega)))
     have hlo := (L7.out).trans (hbn.mono (by have := (L7.out).size; omega))
     have L8 := Lh hlo
     have z8 := hbn.size
     clear o0 o1 o2 o3 s1 s2 t1 t2 hbn
     have hob := HX1.out.low hlo
     obtain ⟨s1, s2, -⟩ := (HX2.out.low hlo).cells
     obtain ⟨t1, t2, -⟩ := (HX3.out.low hlo).cells
     have o0 := show World.cell? _ ⟨w.heap.size, 0, none⟩ = some (.bool o.lpo) from hob.cell 0
     have o1 := show World.cell? _ ⟨w.heap.size, 1, none⟩ = some (.slice Ap o.prec.length cp) from hob.cell 1
     have o2 := show World.cell? _ ⟨w.heap.size, 2, none⟩ = some (.slice Aw o.weights.length cw) from hob.cell 2
     have o3 := show World.cell? _ ⟨w.heap.size, 3, none⟩ = some (.int .i64 o.var) from hob.cell 3
     clear hob
     clear hlo
     cases b3 with
     | true =>
       have hr : res = .lt := Hres.out.symm
       have Hr := Lh hr
       clear hr
       go_wp2_with fail
       go_ret
       exact ⟨by rw [Hr.out]; rfl, HB8.out⟩
     | false =>
       have hr : res = .no := Hres.out.symm
       have Hr := Lh hr
       clear hr
       go_wp2_with fail
       go_ret
       exact ⟨by rw [Hr.out]; rfl, HB8.out⟩
theorem cmp_any {ar : Int → Option Nat} {o : Od} (hk : OOd ar o) (f g : Int) (xs ys : List Tm) (v1 v2 : Value) (Ap Aw : Option Addr) (cp cw : Nat) (B : Nat) (w : World) (hw1 : wfT ar (.mk f xs)) (hw2 : wfT ar (.mk g ys)) (hz : sizeT (.mk f xs) + sizeT (.mk g ys) ≤ 100000) (hlo1 : lowG (.mk f xs) = true) (hlo2 : lowG (.mk g ys) = true)
 (ho : OdV w B o Ap Aw cp cw) (hr1 : Rd w B (.sl 2 (encTms xs)) v1) (hr2 : Rd w B (.sl 2 (encTms ys)) v2) (hB : B ≤ w.heap.size) :
 Calls Tryz.prog 8 #[.agg #[.bool o.lpo, .slice Ap o.prec.length cp, .slice Aw o.weights.length cw, .int .i64 o.var], .agg #[.int .i64 f, v1], .agg #[.int .i64 g, v2]] w (RlRes (ocmp o (.mk f xs) (.mk g ys)) w) := by
 obtain ⟨A1, c1, rfl, -, hn1, -⟩ := hr1.tm_form
 obtain ⟨A2, c2, rfl, -, hn2, -⟩ := hr2.tm_form
 obtain ⟨res, hres⟩ : ∃ res, ocmp o (.mk f xs) (.mk g ys) = res := ⟨_, rfl⟩
 rw [hres]
 have hcall : ∀ w', Below w.heap.size w w' → Calls Tryz.prog (if o.lpo then 22 else 23) #[.agg #[.bool o.lpo, .slice Ap o.prec.length cp, .slice Aw o.weights.length cw, .int .i64 o.var], .agg #[.int .i64 f, .slice A1 xs.length c1], .agg #[.int .i64 g, .slice A2 ys.length c2]] w' (RlRes res w') := by
  intro w' hb
  unfold ocmp at hres
  cases hl : o.lpo with
  | true =>
    rw [hl, if_pos rfl] at hres
    have := lpoCmp_any hk.knows hl f g xs ys (.slice A1 xs.length c1) (.slice A2 ys.length c2) Ap Aw cp cw B w' hw1 hw2 hz hlo1 hlo2 (ho.low hb hB) (hr1.low hb hB) (hr2.low hb hB) (by have := hb.size; omega)
    rw [hres, hl] at this
    exact this
  | false =>
    rw [hl, if_neg (by decide)] at hres
    have := kboCmp_any (hk.kbo hl) f g xs ys (.slice A1 xs.length c1) (.slice A2 ys.length c2) Ap Aw cp cw B w' hw1 hw2 hz (ho.low hb hB) (hr1.low hb hB) (hr2.low hb hB) (by have := hb.size; omega)
    rw [hres, hl] at this
    exact this
 have Hcall := Lh hcall
 clear hcall hres ho hr1 hr2 hk hw1 hw2 hz hlo1 hlo2
 go_enter Tryz.func8, Tryz.ntmps8
 go_upto_region 1 with fail
 obtain ⟨hx1, hx2, hx3, hB3, hz3⟩ := boxes3 w (.cells #[.bool o.lpo, .slice Ap o.prec.length cp, .slice Aw o.weights.length cw, .int .i64 o.var] 38) (.cells #[.int .i64 f, .slice A1 xs.length c1] 32) (.cells #[.int .i64 g, .slice A2 ys.length c2] 32)
 generalize ((w.alloc (.cells #[.bool o.lpo, .slice Ap o.prec.length cp, .slice Aw o.weights.length cw, .int .i64 o.var] 38)).alloc (.cells #[.int .i64 f, .slice A1 xs.length c1] 32)).alloc (.cells #[.int .i64 g, .slice A2 ys.length c2] 32) = w3 at hx1 hx2 hx3 hB3 hz3 ⊢
 have hx1 : BoxN w.heap.size 38 #[.bool o.lpo, .slice Ap o.prec.length cp, .slice Aw o.weights.length cw, .int .i64 o.var] w3 := hx1
 have hx2 : Box2 (w.heap.size + 1) 32 (.int .i64 f) (.slice A1 xs.length c1) w3 := hx2
 have hx3 : Box2 (w.heap.size + 1 + 1) 32 (.int .i64 g) (.slice A2 ys.length c2) w3 := hx3
 have HB3 := Lh hB3
 have HX1 := Lh hx1
 have HX2 := Lh hx2
 have HX3 := Lh hx3
 have hz3l : w.heap.size + 1 + 1 < w3.heap.size := by omega
 clear hx1 hx2 hx3 hB3 hz3
 have hob := HX1.out.low (Below.refl _ w3)
 obtain ⟨s1, s2, -⟩ := (HX2.out.low (Below.refl _ w3)).cells
 obtain ⟨t1, t2, -⟩ := (HX3.out.low (Below.refl _ w3)).cells
 have o0 := show World.cell? _ ⟨w.heap.size, 0, none⟩ = some (.bool o.lpo) from hob.cell 0
 have o1 := show World.cell? _ ⟨w.heap.size, 1, none⟩ = some (.slice Ap o.prec.length cp) from hob.cell 1
 have o2 := show World.cell? _ ⟨w.heap.size, 2, none⟩ = some (.slice Aw o.weights.length cw) from hob.cell 2
 have o3 := show World.cell? _ ⟨w.heap.size, 3, none⟩ = some (.int .i64 o.var) from hob.cell 3
 clear hob
 cases hlp : o.lpo with
 | true =>
   rw [hlp] at o0 HX1 Hcall
   go_wp2_with fail
   refine (Hcall.out w3 HB3.out).mono ?_
   rintro e w4 ⟨rfl, hb4⟩
   have Hb4 := Lh (HB3.out.trans (hb4.mono (by omega)))
   clear hb4 o0 o1 o2 o3 s1 s2 t1 t2
   go_wp2_with fail
   go_ret
   exact ⟨rfl, Hb4.out⟩
 | false =>
   rw [hlp] at o0 HX1 Hcall
   go_wp2_with fail
   refine (Hcall.out w3 HB3.out).mono ?_
   rintro e w4 ⟨rfl, hb4⟩
   have Hb4 := Lh (HB3.out.trans (hb4.mono (by omega)))
   clear hb4 o0 o1 o2 o3 s1 s2 t1 t2
   go_wp2_with fail
   go_ret
   exact ⟨rfl, Hb4.out⟩
def Lays (w w' : World) : Prop := Below w.heap.size w w' ∧ w.drawn ≤ w'.drawn
theorem Lays.refl (w : World) : Lays w w := ⟨Below.refl _ _, Nat.le_refl _⟩
theorem Lays.size {w w' : World} (h : Lays w w') : w.heap.size ≤ w'.heap.size := h.1.size
theorem Lays.trans {w w' w'' : World} (h : Lays w w') (h' : Lays w' w'') : Lays w w'' := ⟨h.1.trans (h'.1.mono h.1.size), Nat.le_trans h.2 h'.2⟩
theorem Lays.alloc (w : World) (o : Obj) : Lays w (w.alloc o) := ⟨below_box w o, Nat.le_refl _⟩
theorem Lays.cell {w w' : World} (h : Lays w w') {p : Addr} (hp : p.block < w.heap.size) : w'.cell? p = w.cell? p := h.1.cell hp
theorem Lays.grow {w w' : World} (h : Lays w w') : ∃ q os, w' = Sort.grow (w.drewN q) os := by
 refine ⟨w'.drawn - w.drawn, w'.heap.extract w.heap.size w'.heap.size, ?_⟩
 obtain ⟨⟨h1, h2, h3, h4, h5⟩, h6⟩ := h
 obtain ⟨hp, tp, dr, os, ou⟩ := w
 obtain ⟨hp', tp', dr', os', ou'⟩ := w'
 dsimp only at h1 h2 h3 h4 h5 h6
 subst h1 h2 h3
 unfold Sort.grow World.drewN
 dsimp only
 have e1 : dr + (dr' - dr) = dr' := by omega
 have e2 : hp ++ hp'.extract hp.size hp'.size = hp' := by
  apply Array.ext_getElem?
  intro i
  by_cases hi : i < hp.size
  · rw [Array.getElem?_append_left hi]
    exact (h5 i hi).symm
  rw [Array.getElem?_append_right (by omega), Array.getElem?_extract]
  have : hp.size + (i - hp.size) = i := by omega
  rw [this]
  by_cases hi2 : i < hp'.size
  · rw [if_pos (by omega)]
  rw [if_neg (by omega), Array.getElem?_eq_none (by omega)]
 rw [e1, e2]
theorem bux {P : Program} {ops : Array Oper} {Q : Exit → Act → World → Prop} (n : Nat) (S : World → Prop) {id : Nat} {a : Act} {w : World} (hS : ∀ wd : World, wd.heap = w.heap → Lays w wd → S wd) (h : wpAnyU P ops Q S n (Array.replicate n false) a)
 (hm : P.follows .mixedOrders = true := by kernel_rfl) (hn : ops.size = n := by rfl) : (Code.region id ops true).wp P Q a w := by
 subst hn
 exact wp_region_any hm (wpAny_of_U _ _ _ _ (hS _ rfl ⟨⟨rfl, rfl, rfl, Nat.le_refl _, fun _ _ => rfl⟩, Nat.le_succ _⟩) h)
def cmpI (i j : Int) : Int := if i < j then -1 else if j < i then 1 else 0
def IsR (n : Int) (w : World) (e : Ending) (w' : World) : Prop := e = .returned (.int .i64 n) ∧ w' = w
theorem isNaN_any (i : Int) (w : World) : Calls Tryz.prog 67 #[.int .i64 i] w fun e w' => e = .returned (.bool false) ∧ w' = w := by
 go_enter Tryz.func67, Tryz.ntmps67
 go_wp2_with fail
 go_ret
 exact ⟨rfl, rfl⟩
theorem compareI_any (i j : Int) (w : World) : Calls Tryz.prog 34 #[.int .i64 i, .int .i64 j] w (IsR (cmpI i j) w) := by
 obtain ⟨r, hr⟩ : ∃ r, cmpI i j = r := ⟨_, rfl⟩
 rw [hr]
 unfold cmpI at hr
 have Hr := Lh hr
 clear hr
 go_enter Tryz.func34, Tryz.ntmps34
 go_wp2_with fail
 refine (isNaN_any i w).mono ?_
 rintro e w1 ⟨rfl, rfl⟩
 go_wp2_with fail
 refine (isNaN_any j w1).mono ?_
 rintro e w2 ⟨rfl, rfl⟩
 by_cases h1 : i < j
 · have hf : r = -1 := by rw [← Hr.out, if_pos h1]
   have Hf := Lh hf
   clear hf
   go_wp2_with fail
   go_ret
   exact ⟨by rw [Hf.out]; rfl, rfl⟩
 have h1' : j ≤ i := by omega
 by_cases h2 : j < i
 · have hf : r = 1 := by rw [← Hr.out, if_neg h1, if_pos h2]
   have Hf := Lh hf
   clear hf
   go_wp2_with fail
   go_ret
   exact ⟨by rw [Hf.out]; rfl, rfl⟩
 have h2' : i ≤ j := by omega
 have hf : r = 0 := by rw [← Hr.out, if_neg h1, if_neg h2]
 have Hf := Lh hf
 clear hf
 go_wp2_with fail
 go_ret
 exact ⟨by rw [Hf.out]; rfl, rfl⟩
theorem orI_any (b : Nat) (x : Int) (w : World) (hc : w.cell? ⟨b, 0, none⟩ = some (.int .i64 x)) : Calls Tryz.prog 69 #[.slice (some ⟨b, 0, none⟩) 1 1] w (IsR x w) := by
 go_enter Tryz.func69, Tryz.ntmps69
 go_wp2_with fail
 go_loopw [8] (fun c wr => wr = w ∧ (c = .int .i64 0 ∨ c = .int .i64 1 ∧ x = 0)) (fun c _ => 1 - (intOf c).toNat)
 case atStart => simp
 obtain ⟨rfl, rfl | ⟨rfl, hx⟩⟩ := hrel
 · by_cases hx : x = 0
   · have hx2 : (x != 0) = false := by rw [hx]; rfl
     have Hx := Lh hx
     clear hx
     go_wp2_with fail
     go_roundw
     case rel => exact ⟨trivial, .inr ⟨by go_num, Hx.out⟩⟩
     case measure => simp [intOf]
   have hx2 : (x != 0) = true := by rw [bne_iff_ne]; exact hx
   clear hx
   go_wp2_with fail
   go_ret
   exact ⟨rfl, rfl⟩
 have Hx := Lh hx
 clear hx
 go_wp2_with fail
 go_ret
 exact ⟨by rw [Hx.out]; rfl, rfl⟩
structure Wy (sb nb ab off kb N cs ck : Nat) (ari cnt : Nat → Int) (w : World) : Prop where
 s0 : w.cell? ⟨sb, 0, none⟩ = some (.slice (some ⟨ab, off, none⟩) N cs)
 n0 : w.cell? ⟨nb, 0, none⟩ = some (.slice (some ⟨kb, 0, none⟩) N ck)
 a : ∀ i, i < N → w.cell? ⟨ab, off + i * 3 + 1, none⟩ = some (.int .i64 (ari i))
 c : ∀ i, i < N → w.cell? ⟨kb, i, none⟩ = some (.int .i64 (cnt i))
 sl : sb < w.heap.size
 nl : nb < w.heap.size
 al : ab < w.heap.size
 kl : kb < w.heap.size
section
variable {sb nb ab off kb N cs ck : Nat} {ari cnt : Nat → Int} {w w' : World}
theorem Wy.lays (h : Wy sb nb ab off kb N cs ck ari cnt w) (hl : Lays w w') : Wy sb nb ab off kb N cs ck ari cnt w' :=
 ⟨(hl.cell h.sl).trans h.s0, (hl.cell h.nl).trans h.n0, fun i hi => (hl.cell h.al).trans (h.a i hi), fun i hi => (hl.cell h.kl).trans (h.c i hi), by have := h.sl; have := hl.size; omega, by have := h.nl; have := hl.size; omega, by have := h.al; have := hl.size; omega, by have := h.kl; have := hl.size; omega⟩
theorem Wy.upd {g : Nat} (h : Wy sb nb ab off kb N cs ck ari cnt w) (hu : Upd w w' (fun b => b = g)) (h1 : sb ≠ g) (h2 : nb ≠ g) (h3 : ab ≠ g) (h4 : kb ≠ g) : Wy sb nb ab off kb N cs ck ari cnt w' := by
 have hc : ∀ (b o : Nat), b < w.heap.size → b ≠ g → w'.cell? ⟨b, o, none⟩ = w.cell? ⟨b, o, none⟩ := fun b o hb hg => World.cell?_of_block (a := ⟨b, o, none⟩) (hu.block b hb hg)
 have hz := hu.size
 exact ⟨(hc _ _ h.sl h1).trans h.s0, (hc _ _ h.nl h2).trans h.n0, fun i hi => (hc _ _ h.al h3).trans (h.a i hi), fun i hi => (hc _ _ h.kl h4).trans (h.c i hi), by have := h.sl; omega, by have := h.nl; omega, by have := h.al; omega, by have := h.kl; omega⟩
end
def CfR (n : Int) (w : World) (e : Ending) (w' : World) : Prop := e = .returned (.int .i64 n) ∧ Lays w w'
def one1 (n : Int) : Int := if n = 1 then 1 else 0
theorem one1_of {n : Int} (h : n = 1) : one1 n = 1 := by unfold one1; rw [if_pos h]
theorem one1_not {n : Int} (h : n ≠ 1) : one1 n = 0 := by unfold one1; rw [if_neg h]
theorem numberW_any (i j : Int) (w : World) : Calls Tryz.prog 33 #[.int .i64 i, .int .i64 j] w (CfR (cmpI i j) w) := by
 obtain ⟨r, hr⟩ : ∃ r, cmpI i j = r := ⟨_, rfl⟩
 have hc := compareI_any i j
 rw [hr] at hc ⊢
 have Hc := Lh hc
 clear hc hr
 go_enter Tryz.func33, Tryz.ntmps33
 go_wp2_with fail
 refine (Hc.out w).mono ?_
 rintro e w1 ⟨rfl, rfl⟩
 go_wp2_with fail
 go_ret
 exact ⟨rfl, Lays.refl _⟩
section
variable {sb nb ab off kb N cs ck : Nat} {ari cnt : Nat → Int}
theorem arityW_any (i j : Nat) (hi : i < N) (hj : j < N) (w : World) (h : Wy sb nb ab off kb N cs ck ari cnt w) : Calls Tryz.prog 35 #[.int .i64 (i : Nat), .int .i64 (j : Nat), .pointer (some ⟨sb, 0, none⟩)] w (CfR (cmpI (ari i) (ari j)) w) := by
 obtain ⟨r, hr⟩ : ∃ r, cmpI (ari i) (ari j) = r := ⟨_, rfl⟩
 have hc := compareI_any (ari i) (ari j)
 rw [hr] at hc ⊢
 have Hc := Lh hc
 have H := Lh h
 have hi2 : ¬ ((N : Int) ≤ (i : Int)) := by omega
 have hj2 : ¬ ((N : Int) ≤ (j : Int)) := by omega
 clear hc hr h
 go_enter Tryz.func35, Tryz.ntmps35
 go_upto_region 1 with fail
 refine bux 14 (fun w' => Lays w w') (fun wd hwd hbd => ?_) ?_
 · exact hbd
 refine pu 0 (.pointer (some ⟨sb, 0, none⟩)) ?_
 refine ru 1 (.slice (some ⟨ab, off, none⟩) N cs) (fun w' hw => ?_) ?_
 · have q0 := (H.out.lays hw).s0
   simp [execOp, go_sem, q0]
 refine pu 2 (.int .i64 (i : Nat)) ?_
 refine ru 3 (.pointer (some ⟨ab, off + i * 3, none⟩)) (fun w' hw => ?_) ?_
 · simp [execOp, go_sem, hi, hi2]
 refine pu 4 (.pointer (some ⟨ab, off + i * 3 + 1, none⟩)) ?_
 refine ru 5 (.int .i64 (ari i)) (fun w' hw => ?_) ?_
 · have qi := (H.out.lays hw).a i hi
   simp [execOp, go_sem, qi]
 refine pu 6 (.pointer (some ⟨sb, 0, none⟩)) ?_
 refine ru 7 (.slice (some ⟨ab, off, none⟩) N cs) (fun w' hw => ?_) ?_
 · have q0 := (H.out.lays hw).s0
   simp [execOp, go_sem, q0]
 refine pu 8 (.int .i64 (j : Nat)) ?_
 refine ru 9 (.pointer (some ⟨ab, off + j * 3, none⟩)) (fun w' hw => ?_) ?_
 · simp [execOp, go_sem, hj, hj2]
 refine pu 10 (.pointer (some ⟨ab, off + j * 3 + 1, none⟩)) ?_
 refine ru 11 (.int .i64 (ari j)) (fun w' hw => ?_) ?_
 · have qj := (H.out.lays hw).a j hj
   simp [execOp, go_sem, qj]
 refine cu 12 (.int .i64 r) (fun w' hw => (Hc.out w').mono ?_) ?_
 · rintro e w2 ⟨rfl, rfl⟩
   exact ⟨rfl, hw⟩
 refine pu 13 (.int .i64 r) ?_
 refine du (fun wz hS => ?_)
 have HS := Lh hS
 clear hS
 go_wp2_with fail
 go_ret
 exact ⟨rfl, HS.out⟩
theorem unaryW_any (i j : Nat) (hi : i < N) (hj : j < N) (w : World) (h : Wy sb nb ab off kb N cs ck ari cnt w) : Calls Tryz.prog 36 #[.int .i64 (i : Nat), .int .i64 (j : Nat), .pointer (some ⟨sb, 0, none⟩)] w (CfR (one1 (ari i) - one1 (ari j)) w) := by
 have q0 := h.s0
 have qi := h.a i hi
 have qj := h.a j hj
 have hi2 : ¬ ((N : Int) ≤ (i : Int)) := by omega
 have hj2 : ¬ ((N : Int) ≤ (j : Int)) := by omega
 generalize ari i = x at qi ⊢
 generalize ari j = y at qj ⊢
 clear h
 by_cases hx : x = 1
 · by_cases hy : y = 1
   · rw [one1_of hx, one1_of hy]
     subst hx hy
     go_enter Tryz.func36, Tryz.ntmps36
     go_wp2_with fail
     go_ret
     exact ⟨rfl, Lays.refl _⟩
   rw [one1_of hx, one1_not hy]
   subst hx
   go_enter Tryz.func36, Tryz.ntmps36
   go_wp2_with fail
   go_ret
   exact ⟨rfl, Lays.refl _⟩
 by_cases hy : y = 1
 · rw [one1_not hx, one1_of hy]
   subst hy
   go_enter Tryz.func36, Tryz.ntmps36
   go_wp2_with fail
   go_ret
   exact ⟨rfl, Lays.refl _⟩
 rw [one1_not hx, one1_not hy]
 go_enter Tryz.func36, Tryz.ntmps36
 go_wp2_with fail
 go_ret
 exact ⟨rfl, Lays.refl _⟩
theorem oftenW_any (i j : Nat) (hi : i < N) (hj : j < N) (w : World) (h : Wy sb nb ab off kb N cs ck ari cnt w) : Calls Tryz.prog 37 #[.int .i64 (i : Nat), .int .i64 (j : Nat), .pointer (some ⟨nb, 0, none⟩)] w (CfR (cmpI (cnt i) (cnt j)) w) := by
 obtain ⟨r, hr⟩ : ∃ r, cmpI (cnt i) (cnt j) = r := ⟨_, rfl⟩
 have hc := compareI_any (cnt i) (cnt j)
 rw [hr] at hc ⊢
 have Hc := Lh hc
 have H := Lh h
 have hi2 : ¬ ((N : Int) ≤ (i : Int)) := by omega
 have hj2 : ¬ ((N : Int) ≤ (j : Int)) := by omega
 clear hc hr h
 go_enter Tryz.func37, Tryz.ntmps37
 go_upto_region 1 with fail
 refine bux 10 (fun w' => Lays w w') (fun wd hwd hbd => ?_) ?_
 · exact hbd
 refine ru 0 (.slice (some ⟨kb, 0, none⟩) N ck) (fun w' hw => ?_) ?_
 · have q0 := (H.out.lays hw).n0
   simp [execOp, go_sem, q0]
 refine pu 1 (.int .i64 (i : Nat)) ?_
 refine ru 2 (.pointer (some ⟨kb, i, none⟩)) (fun w' hw => ?_) ?_
 · simp [execOp, go_sem, hi, hi2]
 refine ru 3 (.int .i64 (cnt i)) (fun w' hw => ?_) ?_
 · have qi := (H.out.lays hw).c i hi
   simp [execOp, go_sem, qi]
 refine ru 4 (.slice (some ⟨kb, 0, none⟩) N ck) (fun w' hw => ?_) ?_
 · have q0 := (H.out.lays hw).n0
   simp [execOp, go_sem, q0]
 refine pu 5 (.int .i64 (j : Nat)) ?_
 refine ru 6 (.pointer (some ⟨kb, j, none⟩)) (fun w' hw => ?_) ?_
 · simp [execOp, go_sem, hj, hj2]
 refine ru 7 (.int .i64 (cnt j)) (fun w' hw => ?_) ?_
 · have qj := (H.out.lays hw).c j hj
   simp [execOp, go_sem, qj]
 refine cu 8 (.int .i64 r) (fun w' hw => (Hc.out w').mono ?_) ?_
 · rintro e w2 ⟨rfl, rfl⟩
   exact ⟨rfl, hw⟩
 refine pu 9 (.int .i64 r) ?_
 refine du (fun wz hS => ?_)
 have HS := Lh hS
 clear hS
 go_wp2_with fail
 go_ret
 exact ⟨rfl, HS.out⟩
theorem seldomW_any (i j : Nat) (hi : i < N) (hj : j < N) (w : World) (h : Wy sb nb ab off kb N cs ck ari cnt w) : Calls Tryz.prog 38 #[.int .i64 (i : Nat), .int .i64 (j : Nat), .pointer (some ⟨nb, 0, none⟩)] w (CfR (cmpI (cnt j) (cnt i)) w) := by
 obtain ⟨r, hr⟩ : ∃ r, cmpI (cnt j) (cnt i) = r := ⟨_, rfl⟩
 have hc := compareI_any (cnt j) (cnt i)
 rw [hr] at hc ⊢
 have Hc := Lh hc
 have H := Lh h
 have hi2 : ¬ ((N : Int) ≤ (i : Int)) := by omega
 have hj2 : ¬ ((N : Int) ≤ (j : Int)) := by omega
 clear hc hr h
 go_enter Tryz.func38, Tryz.ntmps38
 go_upto_region 1 with fail
 refine bux 10 (fun w' => Lays w w') (fun wd hwd hbd => ?_) ?_
 · exact hbd
 refine ru 0 (.slice (some ⟨kb, 0, none⟩) N ck) (fun w' hw => ?_) ?_
 · have q0 := (H.out.lays hw).n0
   simp [execOp, go_sem, q0]
 refine pu 1 (.int .i64 (j : Nat)) ?_
 refine ru 2 (.pointer (some ⟨kb, j, none⟩)) (fun w' hw => ?_) ?_
 · simp [execOp, go_sem, hj, hj2]
 refine ru 3 (.int .i64 (cnt j)) (fun w' hw => ?_) ?_
 · have qj := (H.out.lays hw).c j hj
   simp [execOp, go_sem, qj]
 refine ru 4 (.slice (some ⟨kb, 0, none⟩) N ck) (fun w' hw => ?_) ?_
 · have q0 := (H.out.lays hw).n0
   simp [execOp, go_sem, q0]
 refine pu 5 (.int .i64 (i : Nat)) ?_
 refine ru 6 (.pointer (some ⟨kb, i, none⟩)) (fun w' hw => ?_) ?_
 · simp [execOp, go_sem, hi, hi2]
 refine ru 7 (.int .i64 (cnt i)) (fun w' hw => ?_) ?_
 · have qi := (H.out.lays hw).c i hi
   simp [execOp, go_sem, qi]
 refine cu 8 (.int .i64 r) (fun w' hw => (Hc.out w').mono ?_) ?_
 · rintro e w2 ⟨rfl, rfl⟩
   exact ⟨rfl, hw⟩
 refine pu 9 (.int .i64 r) ?_
 refine du (fun wz hS => ?_)
 have HS := Lh hS
 clear hS
 go_wp2_with fail
 go_ret
 exact ⟨rfl, HS.out⟩
end
def fstNZ : List Int → Int
 | [] => 0
 | x :: xs => if x = 0 then fstNZ xs else x
structure CfAt (w : World) (i j : Int) (g : Nat) (cb : Array Value) (r : Int) : Prop where
 eg : ∀ (args : Array Value) (w : World), (callFunc g args).run Tryz.prog w = .ok (.enter g args) w
 call : ∀ w', Lays w w' → Calls Tryz.prog g (#[.int .i64 i, .int .i64 j] ++ cb) w' (CfR r w')
theorem by1_any (tb fb c : Nat) (i j : Int) (gs : List (Nat × Array Value)) (rs : List Int) (w : World) (hl : rs.length = gs.length) (htb : tb < w.heap.size) (hfb : fb < w.heap.size) (hlm : gs.length ≤ 1000)
 (hbx : w.cell? ⟨tb, 0, none⟩ = some (.slice (some ⟨fb, 0, none⟩) gs.length c)) (hcell : ∀ k (h : k < gs.length), w.cell? ⟨fb, k, none⟩ = some (.func (.func gs[k].1) #[] gs[k].2))
 (hcf : ∀ k (h : k < gs.length) (h2 : k < rs.length), CfAt w i j gs[k].1 gs[k].2 rs[k]) :
 Calls Tryz.prog 68 #[.int .i64 i, .int .i64 j, .pointer (some ⟨tb, 0, none⟩)] w (CfR (fstNZ rs) w) := by
 obtain ⟨r, hr⟩ : ∃ r, fstNZ rs = r := ⟨_, rfl⟩
 rw [hr]
 obtain ⟨m, hm⟩ : ∃ m, gs.length = m := ⟨_, rfl⟩
 rw [hm] at hbx hlm
 have Hm := Lh hm
 have Hr := Lh hr
 have Hl := Lh hl
 have Hcell := Lh hcell
 have Hcf := Lh hcf
 clear hr hl hcell hcf hm
 go_enter Tryz.func68, Tryz.ntmps68
 go_wp2_with fail
 clear hbx
 go_loopw [11] (fun q wr => ∃ k : Nat, k ≤ m ∧ q = .int .i64 k ∧ fstNZ (rs.drop k) = r ∧ Lays w wr) (fun q _ => m - (intOf q).toNat)
 case atStart => exact ⟨0, Nat.zero_le _, rfl, Hr.out, Lays.refl _⟩
 obtain ⟨k, hk, rfl, hrest, hlay⟩ := hrel
 have hzr := hlay.size
 have Hrest := Lh hrest
 have Hlay := Lh hlay
 by_cases hlt : k < m
 · have hkg : k < gs.length := by rw [Hm.out]; exact hlt
   have hkr : k < rs.length := by rw [Hl.out]; exact hkg
   have hlt2 : ¬ ((m : Int) ≤ (k : Int)) := by omega
   have c0 := (hlay.cell (p := ⟨fb, k, none⟩) hfb).trans (Hcell.out k hkg)
   obtain ⟨eg, hcall⟩ := Hcf.out k hkg hkr
   replace hcall := hcall wr hlay
   have hd := List.drop_eq_getElem_cons hkr
   have hrest := Hrest.out
   rw [hd, fstNZ] at hrest
   generalize gs[k].1 = g at c0 eg hcall
   generalize gs[k].2 = cb at c0 hcall
   generalize rs[k] = x at hcall hrest
   have Hcall := Lh hcall
   have Hn := Lh hrest
   clear hcall hrest hd hlay hkg hkr
   go_wp2_with fail
   refine Hcall.out.mono ?_
   rintro e w2 ⟨rfl, hl2⟩
   have Hl2 := Lh hl2
   clear hl2
   go_wp2_with fail
   obtain ⟨ob, hob⟩ : ∃ ob, w2.heap.size = ob := ⟨_, rfl⟩
   have hb3 : (w2.alloc (.cells #[.int .i64 x] 3)).heap[w2.heap.size]? = _ := heap_alloc_new w2 (.cells #[.int .i64 x] 3)
   have q3 : (w2.alloc (.cells #[.int .i64 x] 3)).cell? ⟨w2.heap.size, 0, none⟩ = some (.int .i64 x) := cell_of_row _ _ 0 _ _ _ hb3
   have hl3 := Lays.alloc w2 (.cells #[.int .i64 x] 3)
   generalize w2.alloc (.cells #[.int .i64 x] 3) = w3 at q3 hl3 ⊢
   rw [hob] at q3 ⊢
   have Hl3 := Lh (Hlay.out.trans (Hl2.out.trans hl3))
   refine (orI_any ob x w3 q3).mono ?_
   rintro e w4 ⟨rfl, rfl⟩
   clear hob hb3 q3 hl3
   by_cases hx : x = 0
   · have hx2 : (x != 0) = false := by rw [hx]; rfl
     have hn := Hn.out
     rw [if_pos hx] at hn
     have Hn2 := Lh hn
     clear hx hn
     go_wp2_with fail
     go_roundw
     case rel => exact ⟨k + 1, by omega, by go_num, Hn2.out, Hl3.out⟩
     case measure => simp [intOf]; omega
   have hx2 : (x != 0) = true := by rw [bne_iff_ne]; exact hx
   have hn := Hn.out
   rw [if_neg hx] at hn
   have Hn2 := Lh hn
   clear hx hn
   go_wp2_with fail
   go_ret
   exact ⟨by rw [← Hn2.out]; rfl, Hl3.out⟩
 have hr : r = 0 := by
  have := Hrest.out
  have hk2 : rs.drop k = [] := List.drop_eq_nil_of_le (by rw [Hl.out, Hm.out]; omega)
  rw [hk2, fstNZ] at this
  exact this.symm
 have Hr2 := Lh hr
 clear hr hlay
 go_wp2_with fail
 go_ret
 exact ⟨by rw [Hr2.out]; rfl, Hlay.out⟩
def ByAt (w : World) (lo tb : Nat) (gs : List (Nat × Array Value)) : Prop :=
 ∃ fb c, lo ≤ tb ∧ tb < w.heap.size ∧ lo ≤ fb ∧ fb < w.heap.size ∧ w.cell? ⟨tb, 0, none⟩ = some (.slice (some ⟨fb, 0, none⟩) gs.length c) ∧ ∀ k (h : k < gs.length), w.cell? ⟨fb, k, none⟩ = some (.func (.func gs[k].1) #[] gs[k].2)
theorem ByAt.lays {w w' : World} {lo tb : Nat} {gs : List (Nat × Array Value)} (h : ByAt w lo tb gs) (hl : Lays w w') : ByAt w' lo tb gs := by
 obtain ⟨fb, c, h1, h2, h3, h4, h5, h6⟩ := h
 have := hl.size
 exact ⟨fb, c, h1, by omega, h3, by omega, (hl.cell (p := ⟨tb, 0, none⟩) h2).trans h5, fun k hk => (hl.cell (p := ⟨fb, k, none⟩) h4).trans (h6 k hk)⟩
theorem ByAt.upd {w w' : World} {lo tb g : Nat} {gs : List (Nat × Array Value)} (h : ByAt w lo tb gs) (hu : Upd w w' (fun b => b = g)) (hg : g < lo) : ByAt w' lo tb gs := by
 obtain ⟨fb, c, h1, h2, h3, h4, h5, h6⟩ := h
 have := hu.size
 exact ⟨fb, c, h1, by omega, h3, by omega, (World.cell?_of_block (a := ⟨tb, 0, none⟩) (hu.block tb h2 (by omega))).trans h5, fun k hk => (World.cell?_of_block (a := ⟨fb, k, none⟩) (hu.block fb h4 (by omega))).trans (h6 k hk)⟩
theorem by_any (fb m c : Nat) (w : World) : Calls Tryz.prog 39 #[.slice (some ⟨fb, 0, none⟩) m c] w fun e w' =>
 e = .returned (.func (.func 68) #[] #[.pointer (some ⟨w.heap.size, 0, none⟩)]) ∧ Lays w w' ∧ w.heap.size < w'.heap.size ∧ w'.cell? ⟨w.heap.size, 0, none⟩ = some (.slice (some ⟨fb, 0, none⟩) m c) := by
 have hb := cell_of_row _ _ 0 _ _ _ (heap_alloc_new w (.cells #[.slice (some ⟨fb, 0, none⟩) m c] 62))
 have hl := Lays.alloc w (.cells #[.slice (some ⟨fb, 0, none⟩) m c] 62)
 have hz : w.heap.size < (w.alloc (.cells #[.slice (some ⟨fb, 0, none⟩) m c] 62)).heap.size := by simp
 have Hb := Lh hb
 have Hl := Lh hl
 have Hz := Lh hz
 clear hb hl hz
 go_enter Tryz.func39, Tryz.ntmps39
 go_wp2_with fail
 go_ret
 exact ⟨rfl, Hl.out, Hz.out, Hb.out⟩
def gsOf (sb nb : Nat) : Nat → List (Nat × Array Value)
 | 0 => [(33, #[])]
 | 1 => [(35, #[.pointer (some ⟨sb, 0, none⟩)]), (33, #[])]
 | 2 => [(36, #[.pointer (some ⟨sb, 0, none⟩)]), (35, #[.pointer (some ⟨sb, 0, none⟩)]), (33, #[])]
 | 3 => [(37, #[.pointer (some ⟨nb, 0, none⟩)]), (33, #[])]
 | _ => [(38, #[.pointer (some ⟨nb, 0, none⟩)]), (33, #[])]
def WaysR (vS vN : Value) (w : World) (e : Ending) (w' : World) : Prop :=
 ∃ vb sb nb, e = .returned (.slice (some ⟨vb, 0, none⟩) 5 5) ∧ Lays w w' ∧ w.heap.size ≤ sb ∧ sb < w'.heap.size ∧ w.heap.size ≤ nb ∧ nb < w'.heap.size ∧ w'.cell? ⟨sb, 0, none⟩ = some vS ∧ w'.cell? ⟨nb, 0, none⟩ = some vN ∧
   ∀ p, p < 5 → ∃ tb, w'.cell? ⟨vb, p, none⟩ = some (.func (.func 68) #[] #[.pointer (some ⟨tb, 0, none⟩)]) ∧ ByAt w' w.heap.size tb (gsOf sb nb p)
theorem ways_any (A : Option Addr) (N cs kb M ck : Nat) (w : World) : Calls Tryz.prog 17 #[.agg #[.slice A N cs], .slice (some ⟨kb, 0, none⟩) M ck] w (WaysR (.slice A N cs) (.slice (some ⟨kb, 0, none⟩) M ck) w) := by
 go_enter Tryz.func17, Tryz.ntmps17
 go_upto_region 1 with fail
 obtain ⟨hx1, hx2, hB2, hz2⟩ := boxes2 w (.cells #[.slice A N cs] 24) (.cells #[.slice (some ⟨kb, 0, none⟩) M ck] 36)
 have hl2 : Lays w ((w.alloc (.cells #[.slice A N cs] 24)).alloc (.cells #[.slice (some ⟨kb, 0, none⟩) M ck] 36)) := (Lays.alloc _ _).trans (Lays.alloc _ _)
 have q1 := cell_of_row _ _ 0 _ _ _ hx1
 have q2 := cell_of_row _ _ 0 _ _ _ hx2
 generalize (w.alloc (.cells #[.slice A N cs] 24)).alloc (.cells #[.slice (some ⟨kb, 0, none⟩) M ck] 36) = w2 at hx1 hx2 hB2 hz2 hl2 q1 q2 ⊢
 have Q1 := Lh q1
 have Q2 := Lh q2
 have Hl2 := Lh hl2
 have hzl : w.heap.size + 1 < w2.heap.size := by omega
 clear hx1 hx2 hB2 hz2 hl2 q1 q2
 go_wp2_with fail
 have hb0 : (w2.alloc (.cells #[.func (.func 33) #[] #[]] 61)).heap[w2.heap.size]? = _ := heap_alloc_new w2 (.cells #[.func (.func 33) #[] #[]] 61)
 have hb0 : BoxN w2.heap.size 61 #[.func (.func 33) #[] #[]] _ := hb0
 have hl0 := Lays.alloc w2 (.cells #[.func (.func 33) #[] #[]] 61)
 have hz0 : w2.heap.size < (w2.alloc (.cells #[.func (.func 33) #[] #[]] 61)).heap.size := by simp
 generalize w2.alloc (.cells #[.func (.func 33) #[] #[]] 61) = x0 at hb0 hl0 hz0 ⊢
 refine (by_any _ _ _ x0).mono ?_
 rintro e y0 ⟨rfl, hly0, hzy0, hcy0⟩
 obtain ⟨tb0, htb0⟩ : ∃ t, x0.heap.size = t := ⟨_, rfl⟩
 have hlay0 := Hl2.out.trans (hl0.trans hly0)
 have hby0 : ByAt y0 w.heap.size tb0 (gsOf w.heap.size (w.heap.size + 1) 0) := by
  have hs1 := (Hl2.out).size
  have hs2 := hl0.size
  have hbn := hb0.low hly0.1
  rw [htb0] at hzy0 hcy0
  refine ⟨w2.heap.size, _, by omega, by omega, by omega, by omega, hcy0, fun k hk => ?_⟩
  (have : k < 1 := hk) <;> (obtain rfl : k = 0 := by omega) <;> exact hbn.cell _
 rw [htb0]
 have Hby0 := Lh hby0
 have Hlay0 := Lh hlay0
 have Hst0 := Lh (hl0.trans hly0)
 have hsz0 := hlay0.size
 clear hb0 hl0 hz0 hly0 hzy0 hcy0 htb0 hby0 hlay0
 go_wp2_with fail
 have hb1 : (y0.alloc (.cells #[.func (.func 35) #[] #[.pointer (some ⟨w.heap.size, 0, none⟩)], .func (.func 33) #[] #[]] 61)).heap[y0.heap.size]? = _ := heap_alloc_new y0 (.cells #[.func (.func 35) #[] #[.pointer (some ⟨w.heap.size, 0, none⟩)], .func (.func 33) #[] #[]] 61)
 have hb1 : BoxN y0.heap.size 61 #[.func (.func 35) #[] #[.pointer (some ⟨w.heap.size, 0, none⟩)], .func (.func 33) #[] #[]] _ := hb1
 have hl1 := Lays.alloc y0 (.cells #[.func (.func 35) #[] #[.pointer (some ⟨w.heap.size, 0, none⟩)], .func (.func 33) #[] #[]] 61)
 have hz1 : y0.heap.size < (y0.alloc (.cells #[.func (.func 35) #[] #[.pointer (some ⟨w.heap.size, 0, none⟩)], .func (.func 33) #[] #[]] 61)).heap.size := by simp
 generalize y0.alloc (.cells #[.func (.func 35) #[] #[.pointer (some ⟨w.heap.size, 0, none⟩)], .func (.func 33) #[] #[]] 61) = x1 at hb1 hl1 hz1 ⊢
 refine (by_any _ _ _ x1).mono ?_
 rintro e y1 ⟨rfl, hly1, hzy1, hcy1⟩
 obtain ⟨tb1, htb1⟩ : ∃ t, x1.heap.size = t := ⟨_, rfl⟩
 have hlay1 := Hlay0.out.trans (hl1.trans hly1)
 have hby1 : ByAt y1 w.heap.size tb1 (gsOf w.heap.size (w.heap.size + 1) 1) := by
  have hs1 := (Hlay0.out).size
  have hs2 := hl1.size
  have hbn := hb1.low hly1.1
  rw [htb1] at hzy1 hcy1
  refine ⟨y0.heap.size, _, by omega, by omega, by omega, by omega, hcy1, fun k hk => ?_⟩
  rcases (show k = 0 ∨ k = 1 by have : k < 2 := hk; omega) with rfl | rfl <;> exact hbn.cell _
 rw [htb1]
 have Hby1 := Lh hby1
 have Hlay1 := Lh hlay1
 have Hst1 := Lh (hl1.trans hly1)
 have hsz1 := hlay1.size
 clear hb1 hl1 hz1 hly1 hzy1 hcy1 htb1 hby1 hlay1
 go_wp2_with fail
 have hb2 : (y1.alloc (.cells #[.func (.func 36) #[] #[.pointer (some ⟨w.heap.size, 0, none⟩)], .func (.func 35) #[] #[.pointer (some ⟨w.heap.size, 0, none⟩)], .func (.func 33) #[] #[]] 61)).heap[y1.heap.size]? = _ := heap_alloc_new y1 (.cells #[.func (.func 36) #[] #[.pointer (some ⟨w.heap.size, 0, none⟩)], .func (.func 35) #[] #[.pointer (some ⟨w.heap.size, 0, none⟩)], .func (.func 33) #[] #[]] 61)
 have hb2 : BoxN y1.heap.size 61 #[.func (.func 36) #[] #[.pointer (some ⟨w.heap.size, 0, none⟩)], .func (.func 35) #[] #[.pointer (some ⟨w.heap.size, 0, none⟩)], .func (.func 33) #[] #[]] _ := hb2
 have hl2 := Lays.alloc y1 (.cells #[.func (.func 36) #[] #[.pointer (some ⟨w.heap.size, 0, none⟩)], .func (.func 35) #[] #[.pointer (some ⟨w.heap.size, 0, none⟩)], .func (.func 33) #[] #[]] 61)
 have hz2 : y1.heap.size < (y1.alloc (.cells #[.func (.func 36) #[] #[.pointer (some ⟨w.heap.size, 0, none⟩)], .func (.func 35) #[] #[.pointer (some ⟨w.heap.size, 0, none⟩)], .func (.func 33) #[] #[]] 61)).heap.size := by simp
 generalize y1.alloc (.cells #[.func (.func 36) #[] #[.pointer (some ⟨w.heap.size, 0, none⟩)], .func (.func 35) #[] #[.pointer (some ⟨w.heap.size, 0, none⟩)], .func (.func 33) #[] #[]] 61) = x2 at hb2 hl2 hz2 ⊢
 refine (by_any _ _ _ x2).mono ?_
 rintro e y2 ⟨rfl, hly2, hzy2, hcy2⟩
 obtain ⟨tb2, htb2⟩ : ∃ t, x2.heap.size = t := ⟨_, rfl⟩
 have hlay2 := Hlay1.out.trans (hl2.trans hly2)
 have hby2 : ByAt y2 w.heap.size tb2 (gsOf w.heap.size (w.heap.size + 1) 2) := by
  have hs1 := (Hlay1.out).size
  have hs2 := hl2.size
  have hbn := hb2.low hly2.1
  rw [htb2] at hzy2 hcy2
  refine ⟨y1.heap.size, _, by omega, by omega, by omega, by omega, hcy2, fun k hk => ?_⟩
  rcases (show k = 0 ∨ k = 1 ∨ k = 2 by have : k < 3 := hk; omega) with rfl | rfl | rfl <;> exact hbn.cell _
 rw [htb2]
 have Hby2 := Lh hby2
 have Hlay2 := Lh hlay2
 have Hst2 := Lh (hl2.trans hly2)
 have hsz2 := hlay2.size
 clear hb2 hl2 hz2 hly2 hzy2 hcy2 htb2 hby2 hlay2
 go_wp2_with fail
 have hb3 : (y2.alloc (.cells #[.func (.func 37) #[] #[.pointer (some ⟨w.heap.size + 1, 0, none⟩)], .func (.func 33) #[] #[]] 61)).heap[y2.heap.size]? = _ := heap_alloc_new y2 (.cells #[.func (.func 37) #[] #[.pointer (some ⟨w.heap.size + 1, 0, none⟩)], .func (.func 33) #[] #[]] 61)
 have hb3 : BoxN y2.heap.size 61 #[.func (.func 37) #[] #[.pointer (some ⟨w.heap.size + 1, 0, none⟩)], .func (.func 33) #[] #[]] _ := hb3
 have hl3 := Lays.alloc y2 (.cells #[.func (.func 37) #[] #[.pointer (some ⟨w.heap.size + 1, 0, none⟩)], .func (.func 33) #[] #[]] 61)
 have hz3 : y2.heap.size < (y2.alloc (.cells #[.func (.func 37) #[] #[.pointer (some ⟨w.heap.size + 1, 0, none⟩)], .func (.func 33) #[] #[]] 61)).heap.size := by simp
 generalize y2.alloc (.cells #[.func (.func 37) #[] #[.pointer (some ⟨w.heap.size + 1, 0, none⟩)], .func (.func 33) #[] #[]] 61) = x3 at hb3 hl3 hz3 ⊢
 refine (by_any _ _ _ x3).mono ?_
 rintro e y3 ⟨rfl, hly3, hzy3, hcy3⟩
 obtain ⟨tb3, htb3⟩ : ∃ t, x3.heap.size = t := ⟨_, rfl⟩
 have hlay3 := Hlay2.out.trans (hl3.trans hly3)
 have hby3 : ByAt y3 w.heap.size tb3 (gsOf w.heap.size (w.heap.size + 1) 3) := by
  have hs1 := (Hlay2.out).size
  have hs2 := hl3.size
  have hbn := hb3.low hly3.1
  rw [htb3] at hzy3 hcy3
  refine ⟨y2.heap.size, _, by omega, by omega, by omega, by omega, hcy3, fun k hk => ?_⟩
  rcases (show k = 0 ∨ k = 1 by have : k < 2 := hk; omega) with rfl | rfl <;> exact hbn.cell _
 rw [htb3]
 have Hby3 := Lh hby3
 have Hlay3 := Lh hlay3
 have Hst3 := Lh (hl3.trans hly3)
 have hsz3 := hlay3.size
 clear hb3 hl3 hz3 hly3 hzy3 hcy3 htb3 hby3 hlay3
 go_wp2_with fail
 have hb4 : (y3.alloc (.cells #[.func (.func 38) #[] #[.pointer (some ⟨w.heap.size + 1, 0, none⟩)], .func (.func 33) #[] #[]] 61)).heap[y3.heap.size]? = _ := heap_alloc_new y3 (.cells #[.func (.func 38) #[] #[.pointer (some ⟨w.heap.size + 1, 0, none⟩)], .func (.func 33) #[] #[]] 61)
 have hb4 : BoxN y3.heap.size 61 #[.func (.func 38) #[] #[.pointer (some ⟨w.heap.size + 1, 0, none⟩)], .func (.func 33) #[] #[]] _ := hb4
 have hl4 := Lays.alloc y3 (.cells #[.func (.func 38) #[] #[.pointer (some ⟨w.heap.size + 1, 0, none⟩)], .func (.func 33) #[] #[]] 61)
 have hz4 : y3.heap.size < (y3.alloc (.cells #[.func (.func 38) #[] #[.pointer (some ⟨w.heap.size + 1, 0, none⟩)], .func (.func 33) #[] #[]] 61)).heap.size := by simp
 generalize y3.alloc (.cells #[.func (.func 38) #[] #[.pointer (some ⟨w.heap.size + 1, 0, none⟩)], .func (.func 33) #[] #[]] 61) = x4 at hb4 hl4 hz4 ⊢
 refine (by_any _ _ _ x4).mono ?_
 rintro e y4 ⟨rfl, hly4, hzy4, hcy4⟩
 obtain ⟨tb4, htb4⟩ : ∃ t, x4.heap.size = t := ⟨_, rfl⟩
 have hlay4 := Hlay3.out.trans (hl4.trans hly4)
 have hby4 : ByAt y4 w.heap.size tb4 (gsOf w.heap.size (w.heap.size + 1) 4) := by
  have hs1 := (Hlay3.out).size
  have hs2 := hl4.size
  have hbn := hb4.low hly4.1
  rw [htb4] at hzy4 hcy4
  refine ⟨y3.heap.size, _, by omega, by omega, by omega, by omega, hcy4, fun k hk => ?_⟩
  rcases (show k = 0 ∨ k = 1 by have : k < 2 := hk; omega) with rfl | rfl <;> exact hbn.cell _
 rw [htb4]
 have Hby4 := Lh hby4
 have Hlay4 := Lh hlay4
 have Hst4 := Lh (hl4.trans hly4)
 have hsz4 := hlay4.size
 clear hb4 hl4 hz4 hly4 hzy4 hcy4 htb4 hby4 hlay4
 go_wp2_with fail
 have hb9 : (y4.alloc (.cells #[.func (.func 68) #[] #[.pointer (some ⟨tb0, 0, none⟩)], .func (.func 68) #[] #[.pointer (some ⟨tb1, 0, none⟩)], .func (.func 68) #[] #[.pointer (some ⟨tb2, 0, none⟩)], .func (.func 68) #[] #[.pointer (some ⟨tb3, 0, none⟩)], .func (.func 68) #[] #[.pointer (some ⟨tb4, 0, none⟩)]] 61)).heap[y4.heap.size]? = _ := heap_alloc_new y4 (.cells #[.func (.func 68) #[] #[.pointer (some ⟨tb0, 0, none⟩)], .func (.func 68) #[] #[.pointer (some ⟨tb1, 0, none⟩)], .func (.func 68) #[] #[.pointer (some ⟨tb2, 0, none⟩)], .func (.func 68) #[] #[.pointer (some ⟨tb3, 0, none⟩)], .func (.func 68) #[] #[.pointer (some ⟨tb4, 0, none⟩)]] 61)
 have hb9 : BoxN y4.heap.size 61 #[.func (.func 68) #[] #[.pointer (some ⟨tb0, 0, none⟩)], .func (.func 68) #[] #[.pointer (some ⟨tb1, 0, none⟩)], .func (.func 68) #[] #[.pointer (some ⟨tb2, 0, none⟩)], .func (.func 68) #[] #[.pointer (some ⟨tb3, 0, none⟩)], .func (.func 68) #[] #[.pointer (some ⟨tb4, 0, none⟩)]] _ := hb9
 have hl9 := Lays.alloc y4 (.cells #[.func (.func 68) #[] #[.pointer (some ⟨tb0, 0, none⟩)], .func (.func 68) #[] #[.pointer (some ⟨tb1, 0, none⟩)], .func (.func 68) #[] #[.pointer (some ⟨tb2, 0, none⟩)], .func (.func 68) #[] #[.pointer (some ⟨tb3, 0, none⟩)], .func (.func 68) #[] #[.pointer (some ⟨tb4, 0, none⟩)]] 61)
 generalize y4.alloc (.cells #[.func (.func 68) #[] #[.pointer (some ⟨tb0, 0, none⟩)], .func (.func 68) #[] #[.pointer (some ⟨tb1, 0, none⟩)], .func (.func 68) #[] #[.pointer (some ⟨tb2, 0, none⟩)], .func (.func 68) #[] #[.pointer (some ⟨tb3, 0, none⟩)], .func (.func 68) #[] #[.pointer (some ⟨tb4, 0, none⟩)]] 61) = x9 at hb9 hl9 ⊢
 have Hb9 := Lh hb9
 have Hl9 := Lh (Hlay4.out.trans hl9)
 have H9 := Lh hl9
 clear hb9 hl9
 go_ret
 have hz9 := Hl9.out.size
 have l4 := H9.out
 have l3 := Hst4.out.trans l4
 have l2 := Hst3.out.trans l3
 have l1 := Hst2.out.trans l2
 have l0 := Hst1.out.trans l1
 have lw := Hst0.out.trans l0
 have hzw := lw.size
 refine ⟨y4.heap.size, w.heap.size, w.heap.size + 1, rfl, Hl9.out, Nat.le_refl _, by omega, by omega, by omega, (lw.cell (p := ⟨w.heap.size, 0, none⟩) (show w.heap.size < w2.heap.size by omega)).trans Q1.out, (lw.cell (p := ⟨w.heap.size + 1, 0, none⟩) (show w.heap.size + 1 < w2.heap.size by omega)).trans Q2.out, fun p hp => ?_⟩
 rcases (by omega : p = 0 ∨ p = 1 ∨ p = 2 ∨ p = 3 ∨ p = 4) with rfl | rfl | rfl | rfl | rfl
 · exact ⟨tb0, Hb9.out.cell 0, Hby0.out.lays l0⟩
 · exact ⟨tb1, Hb9.out.cell 1, Hby1.out.lays l1⟩
 · exact ⟨tb2, Hb9.out.cell 2, Hby2.out.lays l2⟩
 · exact ⟨tb3, Hb9.out.cell 3, Hby3.out.lays l3⟩
 exact ⟨tb4, Hb9.out.cell 4, Hby4.out.lays l4⟩
def lexLt {α : Type} : List (α → Int) → α → α → Prop
 | [], _, _ => False
 | k :: ks, x, y => k x < k y ∨ (k x = k y ∧ lexLt ks x y)
theorem lexLt_irr {α : Type} : ∀ (ks : List (α → Int)) (x : α), ¬ lexLt ks x x
 | [], _ => id
 | k :: ks, x => by
   rintro (h | ⟨-, h⟩)
   · omega
   exact lexLt_irr ks x h
theorem lexLt_trans {α : Type} : ∀ (ks : List (α → Int)) (x y z : α), lexLt ks x y → lexLt ks y z → lexLt ks x z
 | [], _, _, _, h, _ => h
 | k :: ks, x, y, z, h, h' => by
   rcases h with h | ⟨h1, h2⟩
   · rcases h' with h' | ⟨h3, h4⟩
     · exact .inl (by omega)
     exact .inl (by omega)
   rcases h' with h' | ⟨h3, h4⟩
   · exact .inl (by omega)
   exact .inr ⟨by omega, lexLt_trans ks x y z h2 h4⟩
theorem lexLt_total {α : Type} : ∀ (ks : List (α → Int)) (x y : α), (∃ k ∈ ks, k x ≠ k y) → lexLt ks x y ∨ lexLt ks y x
 | [], _, _, ⟨k, hk, _⟩ => by cases hk
 | k :: ks, x, y, ⟨k', hk, hne⟩ => by
   by_cases h : k x = k y
   · rcases List.mem_cons.1 hk with rfl | hk
     · exact absurd h hne
     rcases lexLt_total ks x y ⟨k', hk, hne⟩ with h' | h'
     · exact .inl (.inr ⟨h, h'⟩)
     exact .inr (.inr ⟨h.symm, h'⟩)
   rcases Int.lt_or_lt_of_ne h with h | h
   · exact .inl (.inl h)
   exact .inr (.inl h)
theorem cmpI_lt (i j : Int) : (cmpI i j < 0 ↔ i < j) ∧ (cmpI i j = 0 ↔ i = j) := by
 unfold cmpI
 split
 · constructor <;> constructor <;> intro h <;> omega
 split <;> constructor <;> constructor <;> intro h <;> omega
def keysOf (ari cnt : Nat → Int) : Nat → List (Nat → Int)
 | 0 => [fun i => (i : Int)]
 | 1 => [ari, fun i => (i : Int)]
 | 2 => [fun i => one1 (ari i), ari, fun i => (i : Int)]
 | 3 => [cnt, fun i => (i : Int)]
 | _ => [fun i => - cnt i, fun i => (i : Int)]
def rsOf (ari cnt : Nat → Int) (i j : Nat) : Nat → List Int
 | 0 => [cmpI i j]
 | 1 => [cmpI (ari i) (ari j), cmpI i j]
 | 2 => [one1 (ari i) - one1 (ari j), cmpI (ari i) (ari j), cmpI i j]
 | 3 => [cmpI (cnt i) (cnt j), cmpI i j]
 | _ => [cmpI (cnt j) (cnt i), cmpI i j]
def cfOf (ari cnt : Nat → Int) (p i j : Nat) : Int := fstNZ (rsOf ari cnt i j p)
theorem fstNZ_lt {r : Int} {rs : List Int} {k : Nat → Int} {ks : List (Nat → Int)} {i j : Nat} (h : (r < 0 ↔ k i < k j) ∧ (r = 0 ↔ k i = k j)) (hr : fstNZ rs < 0 ↔ lexLt ks i j) : fstNZ (r :: rs) < 0 ↔ lexLt (k :: ks) i j := by
 rw [fstNZ, lexLt]
 by_cases h0 : r = 0
 · rw [if_pos h0, hr]
   have := h.2.1 h0
   constructor
   · exact fun h => .inr ⟨this, h⟩
   rintro (h' | h')
   · omega
   exact h'.2
 rw [if_neg h0, h.1]
 constructor
 · exact fun h => .inl h
 rintro (h' | h')
 · exact h'
 exact absurd (h.2.2 h'.1) h0
theorem cfOf_lt (ari cnt : Nat → Int) (p i j : Nat) : cfOf ari cnt p i j < 0 ↔ lexLt (keysOf ari cnt p) i j := by
 have hn : fstNZ [] < 0 ↔ lexLt ([] : List (Nat → Int)) i j := by rw [fstNZ, lexLt]; constructor <;> intro h <;> first | omega | exact h.elim
 have h0 : fstNZ [cmpI i j] < 0 ↔ lexLt [fun i : Nat => (i : Int)] i j := fstNZ_lt (k := fun i => (i : Int)) (cmpI_lt _ _) hn
 unfold cfOf
 match p with
 | 0 => exact h0
 | 1 => exact fstNZ_lt (k := ari) (cmpI_lt _ _) h0
 | 2 => exact fstNZ_lt (k := fun i => one1 (ari i)) ⟨by constructor <;> intro h <;> (try dsimp only at *) <;> omega, by constructor <;> intro h <;> (try dsimp only at *) <;> omega⟩ (fstNZ_lt (k := ari) (cmpI_lt _ _) h0)
 | 3 => exact fstNZ_lt (k := cnt) (cmpI_lt _ _) h0
 | n + 4 => exact fstNZ_lt (k := fun i => - cnt i) ⟨by rw [(cmpI_lt _ _).1]; constructor <;> intro h <;> (try dsimp only at *) <;> omega, by rw [(cmpI_lt _ _).2]; constructor <;> intro h <;> (try dsimp only at *) <;> omega⟩ h0
theorem keys_id (ari cnt : Nat → Int) (p : Nat) : (fun i : Nat => (i : Int)) ∈ keysOf ari cnt p := by
 match p with
 | 0 => simp [keysOf]
 | 1 => simp [keysOf]
 | 2 => simp [keysOf]
 | 3 => simp [keysOf]
 | n + 4 => simp [keysOf]
def cfF (ari cnt : Nat → Int) (p N : Nat) (x y : Fin N) : Int := cfOf ari cnt p x.val y.val
theorem swo_cf (ari cnt : Nat → Int) (p N : Nat) : Go.Sort.SWO (Go.Proofs.ltOf (cfF ari cnt p N)) := by
 have hl : ∀ x y : Fin N, Go.Proofs.ltOf (cfF ari cnt p N) x y = true ↔ lexLt (keysOf ari cnt p) x.val y.val := fun x y => by
  unfold Go.Proofs.ltOf cfF
  rw [decide_eq_true_iff]
  exact cfOf_lt ari cnt p x.val y.val
 have hf : ∀ x y : Fin N, Go.Proofs.ltOf (cfF ari cnt p N) x y = false ↔ ¬ lexLt (keysOf ari cnt p) x.val y.val := fun x y => by rw [← hl, Bool.not_eq_true]
 refine ⟨fun x => (hf x x).2 (lexLt_irr _ _), fun x y z h h' => (hl x z).2 (lexLt_trans _ _ _ _ ((hl x y).1 h) ((hl y z).1 h')), fun x y z h h' => (hf x z).2 (fun hxz => ?_)⟩
 have h1 := (hf x y).1 h
 have h2 := (hf y z).1 h'
 have htot : ∀ a b : Nat, a = b ∨ lexLt (keysOf ari cnt p) a b ∨ lexLt (keysOf ari cnt p) b a := fun a b => by
  by_cases e : a = b
  · exact .inl e
  exact .inr (lexLt_total _ _ _ ⟨_, keys_id ari cnt p, by omega⟩)
 rcases htot x.val y.val with e | e | e
 · rw [e] at hxz; exact h2 hxz
 · exact h1 e
 exact h2 (lexLt_trans _ _ _ _ e hxz)
def encF (N : Nat) (x : Fin N) : Value := .int .i64 (x.val : Nat)
theorem cfAt {sb nb ab off kb N cs ck : Nat} {ari cnt : Nat → Int} {w : World} {i j p : Nat} (hi : i < N) (hj : j < N) (h : Wy sb nb ab off kb N cs ck ari cnt w) : (rsOf ari cnt i j p).length = (gsOf sb nb p).length ∧ (gsOf sb nb p).length ≤ 1000 ∧
 ∀ k (h1 : k < (gsOf sb nb p).length) (h2 : k < (rsOf ari cnt i j p).length), CfAt w (i : Nat) (j : Nat) (gsOf sb nb p)[k].1 (gsOf sb nb p)[k].2 (rsOf ari cnt i j p)[k] := by
 have n1 : CfAt w (i : Nat) (j : Nat) 33 #[] (cmpI i j) := ⟨enters_of Tryz.func33 (by kernel_rfl) rfl, fun w' _ => numberW_any i j w'⟩
 have n2 : CfAt w (i : Nat) (j : Nat) 35 #[.pointer (some ⟨sb, 0, none⟩)] (cmpI (ari i) (ari j)) := ⟨enters_of Tryz.func35 (by kernel_rfl) rfl, fun w' hl => arityW_any i j hi hj w' (h.lays hl)⟩
 have n3 : CfAt w (i : Nat) (j : Nat) 36 #[.pointer (some ⟨sb, 0, none⟩)] (one1 (ari i) - one1 (ari j)) := ⟨enters_of Tryz.func36 (by kernel_rfl) rfl, fun w' hl => unaryW_any i j hi hj w' (h.lays hl)⟩
 have n4 : CfAt w (i : Nat) (j : Nat) 37 #[.pointer (some ⟨nb, 0, none⟩)] (cmpI (cnt i) (cnt j)) := ⟨enters_of Tryz.func37 (by kernel_rfl) rfl, fun w' hl => oftenW_any i j hi hj w' (h.lays hl)⟩
 have n5 : CfAt w (i : Nat) (j : Nat) 38 #[.pointer (some ⟨nb, 0, none⟩)] (cmpI (cnt j) (cnt i)) := ⟨enters_of Tryz.func38 (by kernel_rfl) rfl, fun w' hl => seldomW_any i j hi hj w' (h.lays hl)⟩
 match p with
 | 0 => exact ⟨rfl, by simp [gsOf], fun k h1 h2 => match k, h1, h2 with | 0, _, _ => n1⟩
 | 1 => exact ⟨rfl, by simp [gsOf], fun k h1 h2 => match k, h1, h2 with | 0, _, _ => n2 | 1, _, _ => n1⟩
 | 2 => exact ⟨rfl, by simp [gsOf], fun k h1 h2 => match k, h1, h2 with | 0, _, _ => n3 | 1, _, _ => n2 | 2, _, _ => n1⟩
 | 3 => exact ⟨rfl, by simp [gsOf], fun k h1 h2 => match k, h1, h2 with | 0, _, _ => n4 | 1, _, _ => n1⟩
 | n + 4 => exact ⟨rfl, by simp [gsOf], fun k h1 h2 => match k, h1, h2 with | 0, _, _ => n5 | 1, _, _ => n1⟩
theorem cmp_lays {sb nb ab off kb N cs ck : Nat} {ari cnt : Nat → Int} {w : World} {blk lo tb p : Nat} [Inhabited (Fin N)] (d : Array (Fin N)) (h : Wy sb nb ab off kb N cs ck ari cnt w) (hb : ByAt w lo tb (gsOf sb nb p)) (h1 : sb ≠ blk) (h2 : nb ≠ blk) (h3 : ab ≠ blk) (h4 : kb ≠ blk) (hlo : blk < lo) (hblk : blk < w.heap.size) (hH : Sort.Holds (encF N) w blk 0 d) :
 CmpLays1 Tryz.prog 68 #[.pointer (some ⟨tb, 0, none⟩)] (encF N) (cfF ari cnt p N) blk 0 d.size w := by
 intro m os dk hs x y
 have hu : Upd w (Go.Proofs.sortWorld (encF N) w blk 0 m dk os) (fun b => b = blk) := (upd_putRow (encF N) w m blk 0 d dk os hblk hH hs).1
 generalize Go.Proofs.sortWorld (encF N) w blk 0 m dk os = w1 at hu ⊢
 have hW := h.upd hu h1 h2 h3 h4
 obtain ⟨fb, c, q1, q2, q3, q4, q5, q6⟩ := hb.upd hu hlo
 obtain ⟨r1, r2, r3⟩ := cfAt (i := x.val) (j := y.val) (p := p) x.isLt y.isLt hW
 refine (by1_any tb fb c (x.val : Nat) (y.val : Nat) (gsOf sb nb p) (rsOf ari cnt x.val y.val p) w1 r1 q2 q4 r2 q5 q6 r3).mono ?_
 rintro e w2 ⟨rfl, hl⟩
 exact ⟨rfl, hl.grow⟩
theorem len64_zero (w : World) : Calls Tryz.prog 66 #[.int .u64 0] w fun e w' => e = .returned (.int .i64 0) ∧ w' = w := by
 go_enter Tryz.func66, Tryz.ntmps66
 have hl : wrap64 (wrap64 (Lib.len8 0)) = 0 := by decide +kernel
 go_wp2_with fail
 go_ret
 exact ⟨congrArg (fun z => Ending.returned (.int .i64 z)) hl, rfl⟩
theorem len_zero (w : World) : Calls Tryz.prog 32 #[.int .u64 0] w fun e w' => e = .returned (.int .i64 0) ∧ w' = w := by
 go_enter Tryz.func32, Tryz.ntmps32
 go_wp2_with fail
 refine (len64_zero w).mono ?_
 rintro e w1 ⟨rfl, rfl⟩
 go_wp2_with fail
 go_ret
 exact ⟨rfl, rfl⟩
theorem insNone (fv : Value) (w : World) : Calls Tryz.prog 57 #[.slice none 0 0, .int .i64 0, .int .i64 0, fv] w fun e w' => e = .returned (.tuple #[]) ∧ w' = w := by
 go_enter Tryz.func57, Tryz.ntmps57
 go_wp2_with fail
 go_loopw [8] (fun q wr => q = .int .i64 1 ∧ wr = w) (fun _ _ => 0)
 case atStart => simp
 obtain ⟨rfl, rfl⟩ := hrel
 go_wp2_with fail
 go_end0
 exact ⟨rfl, rfl⟩
theorem pdqNone (fv : Value) (w : World) : Calls Tryz.prog 31 #[.slice none 0 0, .int .i64 0, .int .i64 0, .int .i64 0, fv] w fun e w' => e = .returned (.tuple #[]) ∧ w' = w := by
 go_enter Tryz.func31, Tryz.ntmps31
 go_wp2_with fail
 go_loopw [1, 2, 3] (fun b c d wr => b = .int .i64 0 ∧ c = .int .i64 0 ∧ d = .int .i64 0 ∧ wr = w) (fun _ _ _ _ => 0)
 case atStart => simp
 obtain ⟨rfl, rfl, rfl, rfl⟩ := hrel
 go_wp2_with fail
 refine (insNone _ _).mono ?_
 rintro e w1 ⟨rfl, rfl⟩
 go_wp2_with fail
 exact bodyPost_ret (v := .tuple #[]) (results_none rfl _ _ _) rfl ⟨rfl, rfl⟩
theorem sortNone (fv : Value) (w : World) : Calls Tryz.prog 16 #[.slice none 0 0, fv] w fun e w' => e = .returned (.tuple #[]) ∧ w' = w := by
 go_enter Tryz.func16, Tryz.ntmps16
 go_wp2_with fail
 refine (len_zero w).mono ?_
 rintro e w1 ⟨rfl, rfl⟩
 go_wp2_with fail
 refine (pdqNone fv w1).mono ?_
 rintro e w2 ⟨rfl, rfl⟩
 go_wp2_with fail
 go_end0
 exact ⟨rfl, rfl⟩
theorem highest_any (pb N c i : Nat) (l : List Int) (w : World) (hN : l.length = N) (hi : i < N) (hbig : N ≤ 1000000) (hc : ∀ j, j < N → w.cell? ⟨pb, j, none⟩ = some (.int .i64 (l.getD j 0))) (hpb : pb < w.heap.size) :
 Calls Tryz.prog 18 #[.slice (some ⟨pb, 0, none⟩) N c, .int .i64 (i : Nat)] w (BoolRes (decide (Lib.maxOf l = l.getD i 0)) w) := by
 obtain ⟨b, hb⟩ : ∃ b, (Lib.maxOf l == l.getD i 0) = b := ⟨_, rfl⟩
 have hb2 : decide (Lib.maxOf l = l.getD i 0) = b := by rw [← hb]; rfl
 rw [hb2]
 have hi2 : ¬ ((N : Int) ≤ (i : Int)) := by omega
 have hmx := fun (w' : World) (hw : Below w.heap.size w w') => Tryz.slices_Max_int pb 0 N c l w' (by omega) (by omega) (by omega) (fun j hj => by rw [Nat.zero_add]; exact (hw.cell (p := ⟨pb, j, none⟩) hpb).trans (hc j (by omega)))
 rw [← hN, List.take_length] at hmx
 rw [hN] at hmx
 have Hmx := Lh hmx
 have Hc := Lh hc
 have Hb := Lh hb
 clear hmx hc hb hb2 hN
 go_enter Tryz.func18, Tryz.ntmps18
 go_upto_region 1 with fail
 refine bu 8 (fun w' => Below w.heap.size w w') (fun wd hwd hbd => ?_) ?_
 · exact hwd ▸ hbd
 refine pu 0 (.slice (some ⟨pb, 0, none⟩) N c) ?_
 refine cu 1 (.int .i64 (Lib.maxOf l)) (fun w' hw => (Hmx.out w' hw).mono ?_) ?_
 · rintro e w2 ⟨rfl, rfl⟩
   exact ⟨rfl, hw⟩
 refine pu 2 (.slice (some ⟨pb, 0, none⟩) N c) ?_
 refine pu 3 (.int .i64 (i : Nat)) ?_
 refine ru 4 (.pointer (some ⟨pb, i, none⟩)) (fun w' hw => ?_) ?_
 · simp [execOp, go_sem, hi, hi2]
 refine ru 5 (.int .i64 (l.getD i 0)) (fun w' hw => ?_) ?_
 · have q0 := (hw.cell (p := ⟨pb, i, none⟩) hpb).trans (Hc.out i hi)
   simp [execOp, go_sem, q0]
 refine ru 6 (.bool b) (fun w' hw => ?_) ?_
 · simp [execOp, go_sem, ← Hb.out]
 refine pu 7 (.bool b) ?_
 refine du (fun wz hS => ?_)
 have HS := Lh hS
 clear hS
 go_wp2_with fail
 go_ret
 exact ⟨rfl, HS.out⟩
structure DlP (N : Nat) (dl : List Nat) : Prop where
 len : dl.length + 1 = N
 nd : dl.Nodup
 mem : ∀ i, i ∈ dl ↔ 1 ≤ i ∧ i < N
theorem nodup_at {l : List Nat} (h : l.Nodup) {i j : Nat} (hi : i < l.length) (hj : j < l.length) (e : l[i] = l[j]) : i = j := by
 rcases Nat.lt_trichotomy i j with h1 | h1 | h1
 · exact absurd e (List.pairwise_iff_getElem.1 h i j hi hj h1)
 · exact h1
 exact absurd e.symm (List.pairwise_iff_getElem.1 h j i hj hi h1)
structure RkP (N : Nat) (dl : List Nat) (k : Nat) (P : List Int) : Prop where
 len : P.length = N
 z : P[0]? = some 0
 at_ : ∀ j (h : j < dl.length), j < k → P[dl[j]]? = some (((j : Nat) : Int) + 1)
 lo : ∀ x ∈ P, 0 ≤ x ∧ x ≤ (k : Int)
theorem RkP.start {N : Nat} {dl : List Nat} (hN : 0 < N) : RkP N dl 0 (List.replicate N 0) :=
 ⟨List.length_replicate, by simp [hN], fun j _ h => by omega, fun x hx => by rw [(List.mem_replicate.1 hx).2]; simp⟩
theorem RkP.step {N : Nat} {dl : List Nat} {k : Nat} {P : List Int} (hd : DlP N dl) (hk : k < dl.length) (h : RkP N dl k P) : RkP N dl (k + 1) (P.set dl[k] (((k : Nat) : Int) + 1)) := by
 have hm := (hd.mem dl[k]).1 (List.getElem_mem hk)
 refine ⟨by rw [List.length_set]; exact h.len, ?_, fun j hj hjk => ?_, fun x hx => ?_⟩
 · rw [List.getElem?_set_ne (by omega)]; exact h.z
 · by_cases e : j = k
   · subst e
     rw [List.getElem?_set_self (by rw [h.len]; exact hm.2)]
   rw [List.getElem?_set_ne (fun e2 => e (nodup_at hd.nd hj hk e2.symm))]
   exact h.at_ j hj (by omega)
 rcases List.mem_or_eq_of_mem_set hx with h' | rfl
 · have := h.lo x h'; omega
 omega
theorem RkP.rank {N : Nat} {dl : List Nat} {P : List Int} (hd : DlP N dl) (h : RkP N dl dl.length P) {i : Nat} (hi : i < N) (h0 : 0 < i) : ∃ j, ∃ hj : j < dl.length, dl[j] = i ∧ P[i]? = some (((j : Nat) : Int) + 1) := by
 obtain ⟨j, hj, e⟩ := List.getElem_of_mem ((hd.mem i).2 ⟨h0, hi⟩)
 have := h.at_ j hj hj
 rw [e] at this
 exact ⟨j, hj, e, this⟩
theorem RkP.inj {N : Nat} {dl : List Nat} {P : List Int} (hd : DlP N dl) (h : RkP N dl dl.length P) {i j : Nat} (hi : i < N) (hj : j < N) (he : P[i]?.getD 0 = P[j]?.getD 0) : i = j := by
 by_cases h0 : i = 0
 · by_cases h1 : j = 0
   · omega
   obtain ⟨b, hb, e1, e2⟩ := h.rank hd hj (by omega)
   rw [e2, h0, h.z] at he
   simp only [Option.getD_some] at he
   omega
 obtain ⟨a, ha, d1, d2⟩ := h.rank hd hi (by omega)
 by_cases h1 : j = 0
 · rw [d2, h1, h.z] at he
   simp only [Option.getD_some] at he
   omega
 obtain ⟨b, hb, e1, e2⟩ := h.rank hd hj (by omega)
 rw [e2, d2] at he
 simp only [Option.getD_some] at he
 have : a = b := by omega
 subst this
 omega
theorem sorted_id {N : Nat} {dl : List Nat} (hd : DlP N dl) (hs : ∀ i j (hi : i < dl.length) (hj : j < dl.length), i < j → dl[i] ≤ dl[j]) : ∀ k (h : k < dl.length), dl[k] = k + 1 := by
 have hlt : ∀ i j (hi : i < dl.length) (hj : j < dl.length), i < j → dl[i] < dl[j] := fun i j hi hj h => by
  have h1 := hs i j hi hj h
  have h2 : dl[i] ≠ dl[j] := fun e => by have := nodup_at hd.nd hi hj e; omega
  omega
 have hlo : ∀ k (h : k < dl.length), k + 1 ≤ dl[k] := by
  intro k
  induction k with
  | zero => intro h; have := ((hd.mem _).1 (List.getElem_mem h)).1; omega
  | succ k ih => intro h; have := ih (by omega); have := hlt k (k + 1) (by omega) h (by omega); omega
 have hhi : ∀ m k (h : k < dl.length), dl.length = k + m + 1 → dl[k] + m < N := by
  intro m
  induction m with
  | zero => intro k h _; have := ((hd.mem _).1 (List.getElem_mem h)).2; omega
  | succ m ih => intro k h e; have := ih (k + 1) (by omega) (by omega); have := hlt k (k + 1) h (by omega) (by omega); omega
 intro k h
 have h1 := hlo k h
 have h2 := hhi (dl.length - 1 - k) k h (by omega)
 have := hd.len
 omega
def rngF (N : Nat) : Array (Fin N) := Array.ofFn (n := N - 1) fun j => ⟨j.1 + 1, by omega⟩
theorem rngF_size (N : Nat) : (rngF N).size = N - 1 := by simp [rngF]
theorem dl_of {N : Nat} [Inhabited (Fin N)] (hN : 0 < N) {d' : Array (Fin N)} (h : Go.Sort.PermIn 0 (rngF N).size (rngF N) d') : DlP N (d'.toList.map Fin.val) := by
 obtain ⟨h1, -, h3⟩ := h
 have e1 : d'.extract 0 (rngF N).size = d' := by rw [← h1]; simp
 have e2 : (rngF N).extract 0 (rngF N).size = rngF N := by simp
 rw [e1, e2] at h3
 have hp := h3.map Fin.val
 have hr : (rngF N).toList.map Fin.val = List.range' 1 (N - 1) := by
  apply List.ext_getElem
  · simp [rngF]
  intro i h1 h2
  simp [rngF, List.getElem_range', Nat.add_comm]
 rw [hr] at hp
 refine ⟨?_, ?_, fun i => ?_⟩
 · rw [hp.length_eq, List.length_range']; omega
 · exact hp.nodup_iff.2 (List.nodup_range')
 rw [hp.mem_iff, List.mem_range'_1]; omega
def bOf (ari cnt : Nat → Int) (P : List Int) (wt : Int) (j : Nat) : Int :=
 if wt = 0 then 1 else if wt = 1 then IntKind.i64.wrap (ari j + 1) else if wt = 2 then P.getD j 0 + 1 else cnt j + 1
def wOf (ari cnt : Nat → Int) (P : List Int) (wt : Int) (tp : Bool) (j : Nat) : Int :=
 min (if j = 0 then 1 else if tp = true ∧ ari j = 1 ∧ Lib.maxOf P = P.getD j 0 then 0 else bOf ari cnt P wt j) 1000
structure MkS (N : Nat) (ari : Nat → Int) (lp : Bool) (pr wt : Int) (tp : Bool) (o : Od) : Prop where
 lpo : o.lpo = lp
 rk : ∃ dl, DlP N dl ∧ RkP N dl dl.length o.prec ∧ (pr = 0 → ∀ k (h : k < dl.length), dl[k] = k + 1)
 wts : lp = false → o.var = 1 ∧ ∃ cnt : Nat → Int, (∀ j, 0 ≤ cnt j) ∧ o.weights = (List.range N).map (wOf ari cnt o.prec wt tp)
def upL (k : Nat) : List Int := (List.range (k - 1)).map fun j => ((j : Nat) : Int) + 1
theorem upL_len (k : Nat) : (upL k).length = k - 1 := by simp [upL]
theorem upL_succ {k : Nat} (h : 1 ≤ k) : upL (k + 1) = upL k ++ [((k : Nat) : Int)] := by
 unfold upL
 rw [show k + 1 - 1 = (k - 1) + 1 from by omega, List.range_succ, List.map_append]
 have : (((k - 1 : Nat) : Int) + 1) = ((k : Nat) : Int) := by omega
 simp [this]
def SrtR (N p : Nat) (u : Value) (w : World) (e : Ending) (w' : World) : Prop :=
 e = .returned (.tuple #[]) ∧ Upd w w' (fun k => u.ownBlock = some k) ∧ ∃ dl : List Nat, DlP N dl ∧ (p = 0 → ∀ k (h : k < dl.length), dl[k] = k + 1) ∧ ∃ (A : Option Addr) (c : Nat), u = .slice A dl.length c ∧
   ∀ j (h : j < dl.length), ∃ g, A = some ⟨g, 0, none⟩ ∧ g < w'.heap.size ∧ w'.cell? ⟨g, j, none⟩ = some (.int .i64 ((dl[j] : Nat) : Int))
theorem sort5_any {N base lo tb p sb nb ab off kb cs ck : Nat} {ari cnt : Nat → Int} {u : Value} {w : World} (hN : 0 < N) (hN2 : N ≤ 1100000) (hu : N = 1 → u = .slice none 0 0) (hown : Own w base 3 1 u (icells (upL N)))
 (hW : Wy sb nb ab off kb N cs ck ari cnt w) (hb : ByAt w lo tb (gsOf sb nb p)) (hg : ∀ g, u.ownBlock = some g → sb ≠ g ∧ nb ≠ g ∧ ab ≠ g ∧ kb ≠ g ∧ g < lo) :
 Calls Tryz.prog 16 #[u, .func (.func 68) #[] #[.pointer (some ⟨tb, 0, none⟩)]] w (SrtR N p u w) := by
 by_cases h1 : N = 1
 · rw [hu h1]
   refine (sortNone _ w).mono ?_
   rintro e w' ⟨rfl, rfl⟩
   subst h1
   exact ⟨rfl, Upd.refl _ _, [], ⟨rfl, List.nodup_nil, fun i => by simp; omega⟩, fun _ k h => by simp at h, none, 0, rfl, fun j h => by simp at h⟩
 haveI : Inhabited (Fin N) := ⟨⟨0, hN⟩⟩
 obtain ⟨Au, cu, rfl, -, hm⟩ := hown.form
 rw [icells_len, upL_len] at hown hg ⊢
 obtain ⟨g, hA, hg0, hg1, -, -⟩ := icells_at (j := 0) hown (by rw [upL_len]; omega)
 subst hA
 obtain ⟨n1, n2, n3, n4, n5⟩ := hg g rfl
 have hH : Sort.Holds (encF N) w g 0 (rngF N) := by
  intro j hj
  rw [rngF_size] at hj
  have h0 := icells_holds hown j (by simp [upL_len]; omega)
  rw [getElem!_pos _ j (by simp [upL_len]; omega)] at h0
  rw [getElem!_pos _ j (by rw [rngF_size]; omega)]
  refine ⟨h0.1.trans ?_, h0.2⟩
  simp [upL, rngF, encF]
 have hsz := rngF_size N
 have hcl := Tryz.slices_SortFunc (encF N) (fun x => rfl) (cfF ari cnt p N) (swo_cf ari cnt p N) 68 #[.pointer (some ⟨tb, 0, none⟩)] g 0 cu (rngF N) w (enters_of Tryz.func68 (by kernel_rfl) rfl) (cmp_lays (rngF N) hW hb n1 n2 n3 n4 n5 hg1 hH) hH hg1 (by omega)
 rw [hsz] at hcl
 refine Calls.mono hcl ?_
 rintro e w' ⟨rfl, d', m, os, hp, hs, rfl⟩
 have hd := dl_of hN (by rw [hsz]; exact hp)
 have hs' : d'.size = N - 1 := hp.1.trans hsz
 obtain ⟨hu4, hH4⟩ := upd_putRow (encF N) w m g 0 (rngF N) d' os hg1 hH (by omega)
 have hlen : (d'.toList.map Fin.val).length = N - 1 := by simp [hs']
 refine ⟨rfl, hu4.more (fun k hk => by subst hk; exact .inl rfl), d'.toList.map Fin.val, hd, ?_, some ⟨g, 0, none⟩, cu, by rw [hlen], ?_⟩
 · intro hp0
   refine sorted_id hd fun i j hi hj hij => ?_
   have h2 := hs i j (Nat.zero_le _) hij (by omega)
   rw [getElem!_pos _ i (by omega), getElem!_pos _ j (by omega)] at h2
   unfold Go.Proofs.ltOf cfF at h2
   rw [decide_eq_false_iff_not, cfOf_lt, hp0] at h2
   simp only [keysOf, lexLt] at h2
   simp only [List.getElem_map, Array.getElem_toList]
   omega
 intro j hj
 refine ⟨g, rfl, Nat.lt_of_lt_of_le hg1 hu4.size, ?_⟩
 have h3 := (hH4 j (by omega)).1
 rw [Nat.zero_add, getElem!_pos _ j (by omega)] at h3
 simp only [List.getElem_map, Array.getElem_toList]
 exact h3
end Go.Proofs.YtbkpkahhdlomiaaGreat
