/-
  Part 5 of the proof over the checker: walks and plain laws.
-/
import Derived.Test.YtbkpkahhdlomiaaGreatMD
import Derived.Test.YtbkpkahhdlomiaaGreatMA
set_option maxRecDepth 100000
set_option maxHeartbeats 8000000
set_option linter.unusedSimpArgs false
set_option linter.unusedVariables false
namespace Go.Proofs.YtbkpkahhdlomiaaGreat
open Go.RowKit
def ariOf (sig : List Sy) (i : Nat) : Int := ((sig[i]?).map Sy.ar).getD 0
def MakR (sig : List Sy) (cs : List Cl) (lp : Bool) (pr wt : Int) (tp : Bool) (w : World) (e : Ending) (w' : World) : Prop :=
 Below w.heap.size w w' ∧ ((∃ n : Int, e = .returned (.tuple #[.agg #[.bool false, .slice none 0 0, .slice none 0 0, .int .i64 0], .int .i64 n]) ∧ n ≠ 0 ∧ (SigP sig → cs = [] → ¬ (0 ≤ pr ∧ pr ≤ 4 ∧ 0 ≤ wt ∧ wt ≤ 3))) ∨
  (0 < sig.length ∧ sig.length ≤ 96 ∧ ∃ (o : Od) (Ap Aw : Option Addr) (cp cw : Nat), e = .returned (.tuple #[.agg #[.bool o.lpo, .slice Ap o.prec.length cp, .slice Aw o.weights.length cw, .int .i64 o.var], .int .i64 0]) ∧ OdV w' w'.heap.size o Ap Aw cp cw ∧ MkS sig.length (ariOf sig) lp pr wt tp o))
theorem sig_cells {w : World} {B c : Nat} {A : Option Addr} {sig : List Sy} (h : Rd w B (encSig sig) (.slice A sig.length c)) (h0 : 0 < sig.length) :
 ∃ ab off, A = some ⟨ab, off, none⟩ ∧ ab < B ∧ ∀ i, i < sig.length → w.cell? ⟨ab, off + i * 3 + 1, none⟩ = some (.int .i64 (ariOf sig i)) := by
 obtain ⟨ab, off, hA, hab, -⟩ := h.sy_at h0
 refine ⟨ab, off, hA, hab, fun i hi => ?_⟩
 obtain ⟨ab', off', hA', -, -, h1, -⟩ := h.sy_at hi
 rw [hA] at hA'
 injection hA' with hA'
 injection hA' with e1 e2
 subst e1 e2
 rw [h1]
 simp [ariOf, List.getElem?_eq_getElem hi]
theorem Upd.cell {w w' : World} {F : Nat → Prop} (h : Upd w w' F) {p : Addr} (hp : p.block < w.heap.size) (hF : ¬ F p.block) : w'.cell? p = w.cell? p := World.cell?_of_block (h.block p.block hp hF)
section
variable {P : Program}
theorem wp_sliced {Q : Exit → Act → World → Prop} {o : Oper} {K : Act → World → Prop} {a : Act} {W : World} {cs : Array Value} {n : Nat} {t : TypeId} (h : (execOp a.eval o).run P W = .ok (.value (.slice (some ⟨W.heap.size, 0, none⟩) n n)) (W.alloc (.cells cs t)))
 (hk : ∀ gb wF, gb = W.heap.size → wF.heap.size = W.heap.size + 1 → Below W.heap.size W wF → BoxN gb t cs wF → K (a.put o.dst (.slice (some ⟨gb, 0, none⟩) n n)) wF) : o.wp P a W K Q :=
 wp_value h (hk _ _ rfl (by simp) (below_box W _) (heap_alloc_new W _))
end
theorem set1N {b : Nat} {t : TypeId} {cs cs' : Array Value} {w : World} (h : BoxN b t cs w) (i : Nat) (u : Value) (he : cs.setIfInBounds i u = cs') : BoxN b t cs' (w.setCell ⟨b, i, none⟩ u) ∧ Upd w (w.setCell ⟨b, i, none⟩ u) (fun k => k = b) := by
 refine ⟨(heap_setCell_same w b i _ _ u h).trans (by rw [he]), (Upd.refl w _).setCell _ _ (.inl rfl)⟩
theorem store4 {b : Nat} {t : TypeId} {a0 a1 a2 a3 : Value} {w : World} (h : BoxN b t #[a0, a1, a2, a3] w) (v0 v1 v2 v3 : Value) :
 BoxN b t #[v0, v1, v2, v3] ((((w.setCell ⟨b, 0, none⟩ v0).setCell ⟨b, 1, none⟩ v1).setCell ⟨b, 2, none⟩ v2).setCell ⟨b, 3, none⟩ v3) ∧ Upd w ((((w.setCell ⟨b, 0, none⟩ v0).setCell ⟨b, 1, none⟩ v1).setCell ⟨b, 2, none⟩ v2).setCell ⟨b, 3, none⟩ v3) (fun k => k = b) := by
 have h1 : (w.setCell ⟨b, 0, none⟩ v0).heap[b]? = some (.cells #[v0, a1, a2, a3] t (0, 0)) := (heap_setCell_same w b 0 _ _ v0 h).trans (by simp)
 have hu := (Upd.refl w (fun k => k = b)).setCell ⟨b, 0, none⟩ v0 (.inl rfl)
 generalize w.setCell ⟨b, 0, none⟩ v0 = x1 at h1 hu ⊢
 have h2 : (x1.setCell ⟨b, 1, none⟩ v1).heap[b]? = some (.cells #[v0, v1, a2, a3] t (0, 0)) := (heap_setCell_same x1 b 1 _ _ v1 h1).trans (by simp)
 have hu := hu.setCell ⟨b, 1, none⟩ v1 (.inl rfl)
 generalize x1.setCell ⟨b, 1, none⟩ v1 = x2 at h2 hu ⊢
 have h3 : (x2.setCell ⟨b, 2, none⟩ v2).heap[b]? = some (.cells #[v0, v1, v2, a3] t (0, 0)) := (heap_setCell_same x2 b 2 _ _ v2 h2).trans (by simp)
 have hu := hu.setCell ⟨b, 2, none⟩ v2 (.inl rfl)
 generalize x2.setCell ⟨b, 2, none⟩ v2 = x3 at h3 hu ⊢
 have h4 : (x3.setCell ⟨b, 3, none⟩ v3).heap[b]? = some (.cells #[v0, v1, v2, v3] t (0, 0)) := (heap_setCell_same x3 b 3 _ _ v3 h3).trans (by simp)
 have hu := hu.setCell ⟨b, 3, none⟩ v3 (.inl rfl)
 exact ⟨h4, hu⟩
theorem make5_any (sig : List Sy) (A : Option Addr) (cs0 : Nat) (cs : List Cl) (vc : Value) (lp tp : Bool) (pr wt : Int) (B : Nat) (w : World) (hs : Rd w B (encSig sig) (.slice A sig.length cs0)) (hlen : sig.length ≤ 1100000) (hr : Rd w B (encCls cs) vc) (hB : B ≤ w.heap.size) (hz : sizCs cs ≤ 300000000) :
 Calls Tryz.prog 5 #[.agg #[.slice A sig.length cs0], vc, .agg #[.bool lp, .int .i64 pr, .int .i64 wt, .bool tp]] w (MakR sig cs lp pr wt tp w) := by
 obtain ⟨A1, c1, rfl, -, hn, -⟩ := Rd.row_form hr
 have hct := fun (w' : World) (hb : Below w.heap.size w w') => counts15_any sig A cs0 cs _ B w' (hs.low hb hB) hlen (hr.low hb hB) (by have := hb.size; omega) hz
 have HS := Lh hs
 have Hct := Lh hct
 clear hs hr hct
 go_enter Tryz.func5, Tryz.ntmps5
 go_upto_region 1 with fail
 obtain ⟨hx1, hx2, hx3, hB3, hz3⟩ := boxes3 w (.cells #[.slice A sig.length cs0] 24) (.cells #[.bool lp, .int .i64 pr, .int .i64 wt, .bool tp] 29) (.cells #[.bool false, .slice none 0 0, .slice none 0 0, .int .i64 0] 38)
 generalize ((w.alloc (.cells #[.slice A sig.length cs0] 24)).alloc (.cells #[.bool lp, .int .i64 pr, .int .i64 wt, .bool tp] 29)).alloc (.cells #[.bool false, .slice none 0 0, .slice none 0 0, .int .i64 0] 38) = w3 at hx1 hx2 hx3 hB3 hz3 ⊢
 have hx1 : Box1 w.heap.size 24 (.slice A sig.length cs0) w3 := hx1
 have hx2 : BoxN (w.heap.size + 1) 29 #[.bool lp, .int .i64 pr, .int .i64 wt, .bool tp] w3 := hx2
 have hx3 : BoxN (w.heap.size + 1 + 1) 38 #[.bool false, .slice none 0 0, .slice none 0 0, .int .i64 0] w3 := hx3
 have HB3 := Lh hB3
 have hz3l : w.heap.size + 1 + 1 < w3.heap.size := by omega
 have q1 := hx1.cell
 have HX1 := Lh hx1
 have HX2 := Lh hx2
 have HX3 := Lh hx3
 clear hx1 hx2 hx3 hB3 hz3
 go_wp2_with fail
 refine (Hct.out w3 HB3.out).mono ?_
 rintro e w4 ⟨hb4, hc⟩
 have hz4 := hb4.size
 have HB4 := Lh (HB3.out.trans (hb4.mono (by omega)))
 have HX1 := Lh (HX1.out.low hb4)
 have HX2 := Lh (HX2.out.low hb4)
 have HX3 := Lh (HX3.out.low hb4)
 clear q1
 have u1 : w4.cell? ⟨w.heap.size + 1, 1, none⟩ = some (.int .i64 pr) := HX2.out.cell 1
 have u2 : w4.cell? ⟨w.heap.size + 1, 2, none⟩ = some (.int .i64 wt) := HX2.out.cell 2
 have v0 : w4.cell? ⟨w.heap.size + 1 + 1, 0, none⟩ = some (.bool false) := HX3.out.cell 0
 have v1 : w4.cell? ⟨w.heap.size + 1 + 1, 1, none⟩ = some (.slice none 0 0) := HX3.out.cell 1
 have v2 : w4.cell? ⟨w.heap.size + 1 + 1, 2, none⟩ = some (.slice none 0 0) := HX3.out.cell 2
 have v3 : w4.cell? ⟨w.heap.size + 1 + 1, 3, none⟩ = some (.int .i64 0) := HX3.out.cell 3
 have vf := HX3.out.free
 have hl2 : w.heap.size + 1 + 1 < w4.heap.size := by omega
 rcases hc with ⟨v, n, rfl, hne, hsg⟩ | ⟨hN1, hN2, -, kb, ls, rfl, hkb, hls, hll, hown⟩
 · have hnb : (n != 0) = true := by rw [bne_iff_ne]; exact hne
   have Hsg := Lh hsg
   clear hne hsg hb4
   go_wp2_with fail
   obtain ⟨hx9, hu9⟩ := store4 HX3.out (.bool false) (.slice none 0 0) (.slice none 0 0) (.int .i64 0)
   have hb9 := HB4.out.trans (hu9.toLow (B := w.heap.size) (by have := HB4.out.size; omega) (by rintro k rfl; omega))
   generalize World.setCell _ _ _ = w9 at hx9 hu9 hb9 ⊢
   have y0 : w9.cell? ⟨w.heap.size + 1 + 1, 0, none⟩ = some (.bool false) := hx9.cell 0
   have y1 : w9.cell? ⟨w.heap.size + 1 + 1, 1, none⟩ = some (.slice none 0 0) := hx9.cell 1
   have y2 : w9.cell? ⟨w.heap.size + 1 + 1, 2, none⟩ = some (.slice none 0 0) := hx9.cell 2
   have y3 : w9.cell? ⟨w.heap.size + 1 + 1, 3, none⟩ = some (.int .i64 0) := hx9.cell 3
   refine bodyPost_ret (v := .tuple #[.agg #[.bool false, .slice none 0 0, .slice none 0 0, .int .i64 0], .int .i64 2]) (by simp [results, Tryz.results5, go_sem, y0, y1, y2, y3]) rfl ⟨hb9, .inl ⟨2, rfl, by decide, ?_⟩⟩
   exact fun h1 h2 => absurd h2 (Hsg.out h1)
 have Hown := Lh hown
 have Hll := Lh hll
 have HC0 : ∀ x : Int, ¬ (0 ≤ pr ∧ pr ≤ 4 ∧ 0 ≤ wt ∧ wt ≤ 3) → SigP sig → cs = [] → ¬ (0 ≤ pr ∧ pr ≤ 4 ∧ 0 ≤ wt ∧ wt ≤ 3) := fun _ h _ _ => h
 have HC := Lh HC0
 clear hown hll hb4 HC0
 by_cases d1 : pr < 0
 · go_wp2_with fail
   obtain ⟨hx9, hu9⟩ := store4 HX3.out (.bool false) (.slice none 0 0) (.slice none 0 0) (.int .i64 0)
   have hb9 := HB4.out.trans (hu9.toLow (B := w.heap.size) (by have := HB4.out.size; omega) (by rintro k rfl; omega))
   generalize World.setCell _ _ _ = w9 at hx9 hu9 hb9 ⊢
   have y0 : w9.cell? ⟨w.heap.size + 1 + 1, 0, none⟩ = some (.bool false) := hx9.cell 0
   have y1 : w9.cell? ⟨w.heap.size + 1 + 1, 1, none⟩ = some (.slice none 0 0) := hx9.cell 1
   have y2 : w9.cell? ⟨w.heap.size + 1 + 1, 2, none⟩ = some (.slice none 0 0) := hx9.cell 2
   have y3 : w9.cell? ⟨w.heap.size + 1 + 1, 3, none⟩ = some (.int .i64 0) := hx9.cell 3
   refine bodyPost_ret (v := .tuple #[.agg #[.bool false, .slice none 0 0, .slice none 0 0, .int .i64 0], .int .i64 2]) (by simp [results, Tryz.results5, go_sem, y0, y1, y2, y3]) rfl ⟨hb9, .inl ⟨2, rfl, by decide, ?_⟩⟩
   exact HC.out 0 (by omega)
 by_cases d2 : 4 < pr
 · go_wp2_with fail
   obtain ⟨hx9, hu9⟩ := store4 HX3.out (.bool false) (.slice none 0 0) (.slice none 0 0) (.int .i64 0)
   have hb9 := HB4.out.trans (hu9.toLow (B := w.heap.size) (by have := HB4.out.size; omega) (by rintro k rfl; omega))
   generalize World.setCell _ _ _ = w9 at hx9 hu9 hb9 ⊢
   have y0 : w9.cell? ⟨w.heap.size + 1 + 1, 0, none⟩ = some (.bool false) := hx9.cell 0
   have y1 : w9.cell? ⟨w.heap.size + 1 + 1, 1, none⟩ = some (.slice none 0 0) := hx9.cell 1
   have y2 : w9.cell? ⟨w.heap.size + 1 + 1, 2, none⟩ = some (.slice none 0 0) := hx9.cell 2
   have y3 : w9.cell? ⟨w.heap.size + 1 + 1, 3, none⟩ = some (.int .i64 0) := hx9.cell 3
   refine bodyPost_ret (v := .tuple #[.agg #[.bool false, .slice none 0 0, .slice none 0 0, .int .i64 0], .int .i64 2]) (by simp [results, Tryz.results5, go_sem, y0, y1, y2, y3]) rfl ⟨hb9, .inl ⟨2, rfl, by decide, ?_⟩⟩
   exact HC.out 0 (by omega)
 by_cases d3 : wt < 0
 · go_wp2_with fail
   obtain ⟨hx9, hu9⟩ := store4 HX3.out (.bool false) (.slice none 0 0) (.slice none 0 0) (.int .i64 0)
   have hb9 := HB4.out.trans (hu9.toLow (B := w.heap.size) (by have := HB4.out.size; omega) (by rintro k rfl; omega))
   generalize World.setCell _ _ _ = w9 at hx9 hu9 hb9 ⊢
   have y0 : w9.cell? ⟨w.heap.size + 1 + 1, 0, none⟩ = some (.bool false) := hx9.cell 0
   have y1 : w9.cell? ⟨w.heap.size + 1 + 1, 1, none⟩ = some (.slice none 0 0) := hx9.cell 1
   have y2 : w9.cell? ⟨w.heap.size + 1 + 1, 2, none⟩ = some (.slice none 0 0) := hx9.cell 2
   have y3 : w9.cell? ⟨w.heap.size + 1 + 1, 3, none⟩ = some (.int .i64 0) := hx9.cell 3
   refine bodyPost_ret (v := .tuple #[.agg #[.bool false, .slice none 0 0, .slice none 0 0, .int .i64 0], .int .i64 2]) (by simp [results, Tryz.results5, go_sem, y0, y1, y2, y3]) rfl ⟨hb9, .inl ⟨2, rfl, by decide, ?_⟩⟩
   exact HC.out 0 (by omega)
 by_cases d4 : 3 < wt
 · go_wp2_with fail
   obtain ⟨hx9, hu9⟩ := store4 HX3.out (.bool false) (.slice none 0 0) (.slice none 0 0) (.int .i64 0)
   have hb9 := HB4.out.trans (hu9.toLow (B := w.heap.size) (by have := HB4.out.size; omega) (by rintro k rfl; omega))
   generalize World.setCell _ _ _ = w9 at hx9 hu9 hb9 ⊢
   have y0 : w9.cell? ⟨w.heap.size + 1 + 1, 0, none⟩ = some (.bool false) := hx9.cell 0
   have y1 : w9.cell? ⟨w.heap.size + 1 + 1, 1, none⟩ = some (.slice none 0 0) := hx9.cell 1
   have y2 : w9.cell? ⟨w.heap.size + 1 + 1, 2, none⟩ = some (.slice none 0 0) := hx9.cell 2
   have y3 : w9.cell? ⟨w.heap.size + 1 + 1, 3, none⟩ = some (.int .i64 0) := hx9.cell 3
   refine bodyPost_ret (v := .tuple #[.agg #[.bool false, .slice none 0 0, .slice none 0 0, .int .i64 0], .int .i64 2]) (by simp [results, Tryz.results5, go_sem, y0, y1, y2, y3]) rfl ⟨hb9, .inl ⟨2, rfl, by decide, ?_⟩⟩
   exact HC.out 0 (by omega)
 obtain ⟨p, rfl⟩ : ∃ p : Nat, pr = ((p : Nat) : Int) := ⟨pr.toNat, by omega⟩
 obtain ⟨q, rfl⟩ : ∃ q : Nat, wt = ((q : Nat) : Int) := ⟨wt.toNat, by omega⟩
 go_wp2_with fail
 have hp5 : p < 5 := by omega
 have hq4 : q < 4 := by omega
 clear HC d1 d2 d3 d4
 go_loopw [10, 11] (fun u i wr => ∃ k : Nat, 1 ≤ k ∧ k ≤ sig.length ∧ i = .int .i64 k ∧ (k = 1 → u = .slice none 0 0) ∧ Own wr w4.heap.size 3 1 u (icells (upL k)) ∧ Below w4.heap.size w4 wr) (fun _ i _ => sig.length - (intOf i).toNat)
 case atStart => exact ⟨1, Nat.le_refl _, by omega, rfl, fun _ => rfl, Own.nil _ _ _ _, Below.refl _ _⟩
 obtain ⟨k, hk1, hk, rfl, hu1, hol, hbl⟩ := hrel
 have hzr := hbl.size
 have Hol := Lh hol
 have Hbl := Lh hbl
 have Hu1 := Lh hu1
 clear hol hbl hu1
 by_cases hlt : k < sig.length
 · go_wp2_with (
  at_builtin
  refine wpList_push _ rfl (.tmp 53) (.tmp 55) _ rfl nsT (base := w4.heap.size) (v := u10) (rows := icells (upL k)) rfl (Hol.out.alloc _) (g := wr.heap.size) (cells := #[.int .i64 (k : Nat)]) rfl (heap_alloc_new wr _) rfl (by intro y hy; simp at hy; rcases hy with rfl; rfl) (by rw [icells_len, upL_len]; omega) (by rw [icells_len, upL_len]; unfold maxLen; omega) (by simp; omega) ?_
  intro v5 w5 hown5 hup5 _
  have hown5 : Own w5 w4.heap.size 3 1 v5 (icells (upL (k + 1))) := by rw [upL_succ hk1, icells_push]; exact hown5
  have hb5 : Below w4.heap.size w4 w5 := (Hbl.out.trans ((below_box wr _).mono (by omega))).trans (hup5.toLow (by simp; omega) (fun i hi => ((Hol.out.alloc (.cells #[.int .i64 (k : Nat)] 3)).lt i hi).1))
  have Hown5 := Lh hown5
  have Hb5 := Lh hb5
  clear hown5 hup5 hb5)
   go_roundw
   case rel => exact ⟨k + 1, by omega, by omega, by go_num, fun e => by omega, Hown5.out, Hb5.out⟩
   case measure => simp [intOf]; omega
 have hkk : k = sig.length := by omega
 subst hkk
 obtain ⟨Au, cu, hub, -, -⟩ := Hol.out.form
 have hgs : ∀ g, u10.ownBlock = some g → w4.heap.size ≤ g ∧ g < wr.heap.size := fun g hg => Hol.out.lt g hg
 have hX1 := HX1.out.low Hbl.out
 have hX2 := HX2.out.low Hbl.out
 have hX3 := HX3.out.low Hbl.out
 have hownk := Hown.out.low Hbl.out
 go_upto_region 9 with fail
 have HX1r := Lh hX1
 have HX2r := Lh hX2
 have HX3r := Lh hX3
 have HOk := Lh hownk
 have Hgs := Lh hgs
 have hkl := (hownk.lt kb rfl).2
 clear hX1 hX2 hX3 hownk hgs hlt u1 u2 v0 v1 v2 v3 vf
 refine rg 9 (fun _ w' => w'.cell? ⟨w.heap.size, 0, none⟩ = some (.slice A sig.length cs0) ∧ w'.cell? ⟨w.heap.size + 1, 1, none⟩ = some (.int .i64 (p : Nat))) ?_
 intro wd hwd hbd
 refine ⟨?_, fun hS => ?_⟩
 · exact ⟨(HX1r.out.low hbd).cell, (HX2r.out.low hbd).cell 1⟩
 refine ta 0 (u10) hS fun hS => ?_
 refine tk 1 (.agg #[.slice A sig.length cs0]) hS ?_ fun hS => ?_
 · intro w' L hn hw
   have o1 := hw.1
   simp [execOp, go_sem, o1]
 refine ta 2 (.slice (some ⟨kb, 0, none⟩) sig.length sig.length) hS fun hS => ?_
 refine ta 4 (.pointer (some ⟨w.heap.size + 1, 1, none⟩)) hS fun hS => ?_
 refine tk 5 (.int .i64 (p : Nat)) hS ?_ fun hS => ?_
 · intro w' L hn hw
   have o2 := hw.2
   simp [execOp, go_sem, o2]
 refine so 3 ?_
 refine wp_enter (by simp [execOp, go_sem]) (ways_any A sig.length cs0 kb sig.length sig.length wd) ?_
 rintro e wy ⟨vb, sb, nb, rfl, hly, hsb, hsb2, hnb, hnb2, hcs, hcn, hby⟩
 refine ⟨_, rfl, ?_⟩
 refine gS ?_ fun hS => ?_
 · have hsy := hbd.size
   exact ⟨(hly.cell (p := ⟨w.heap.size, 0, none⟩) (show w.heap.size < wd.heap.size by omega)).trans hS.1, (hly.cell (p := ⟨w.heap.size + 1, 1, none⟩) (show w.heap.size + 1 < wd.heap.size by omega)).trans hS.2⟩
 refine so 6 ?_
 have hpi : ¬ ((5 : Int) ≤ ((p : Nat) : Int)) := by omega
 refine wp_value (v := .pointer (some ⟨vb, p, none⟩)) (w' := wy) (by simp [execOp, go_sem, hp5, hpi]) ?_
 refine gS ?_ fun hS => ?_
 · exact hS
 refine so 7 ?_
 obtain ⟨tb, hct, hbt⟩ := hby p hp5
 refine wp_value (v := .func (.func 68) #[] #[.pointer (some ⟨tb, 0, none⟩)]) (w' := wy) (by simp [execOp, go_sem, hct]) ?_
 refine gS ?_ fun hS => ?_
 · exact hS
 refine so 8 ?_
 have hsy := hbd.size
 have hsl := hly.1.size
 have hsB := HB4.out.size
 have hbw : Below wr.heap.size wr wy := hbd.trans (hly.1.mono hsy)
 have hRsig := HS.out.low ((HB4.out.trans (Hbl.out.mono (by omega))).trans (hbw.mono (by omega))) hB
 obtain ⟨ab, off, hA, hab, hari⟩ := sig_cells hRsig hN1
 have hok := HOk.out.low hbw
 have hkw4 := (Hown.out.lt kb rfl).2
 have hWy : Wy sb nb ab off kb sig.length cs0 sig.length (ariOf sig) (fun i => ls.getD i 0) wy := by
  refine ⟨by rw [← hA]; exact hcs, hcn, hari, fun i hi => ?_, hsb2, hnb2, by omega, by omega⟩
  obtain ⟨g, hg, -, -, h1, -⟩ := icells_at (j := i) hok (by omega)
  injection hg with hg
  injection hg with hg
  subst hg
  rw [h1, List.getD_eq_getElem?_getD, List.getElem?_eq_getElem (by omega)]
  rfl
 refine wp_enter (by simp [execOp, go_sem]) (sort5_any hN1 hlen Hu1.out (Hol.out.low hbw) hWy hbt (fun g hg => by have := Hgs.out g hg; omega)) ?_
 rintro e wz ⟨rfl, huz, dl, hdl, hid, As, cas, hus, hds⟩
 have huw : Upd wr wz (fun k => u10.ownBlock = some k) := (Upd.low hbw _).trans huz (fun k hk => .inl hk)
 refine ⟨_, rfl, ?_⟩
 refine gS ?_ fun hS => ?_
 · have hgl := Hgs.out
   exact ⟨(World.cell?_of_block (a := ⟨w.heap.size, 0, none⟩) (huz.block w.heap.size (by omega) (fun hk => by have := hgl _ hk; omega))).trans hS.1, (World.cell?_of_block (a := ⟨w.heap.size + 1, 1, none⟩) (huz.block (w.heap.size + 1) (by omega) (fun hk => by have := hgl _ hk; omega))).trans hS.2⟩
 refine dn ?_
 have hgl := Hgs.out
 have hkw4 := (Hown.out.lt kb rfl).2
 have hsz := huw.size
 have hX1 := HX1r.out.upd huw (fun hk => by have := hgl _ hk; omega)
 have hX2 := HX2r.out.upd huw (fun hk => by have := hgl _ hk; omega)
 have hX3 := HX3r.out.upd huw (fun hk => by have := hgl _ hk; omega)
 have hok := HOk.out.upd huw (fun g hg hk => by injection hg with hg; simp only at hg; have := hgl _ hk; omega)
 have hbz := HB4.out.trans ((Hbl.out.mono (by have := HB4.out.size; omega)).trans (huw.toLow (B := w.heap.size) (by have := HB4.out.size; omega) (fun k hk => by have := hgl k hk; have := HB4.out.size; omega)))
 have HX1 := Lh hX1
 have HX2 := Lh hX2
 have HX3 := Lh hX3
 have HOk := Lh hok
 have HBz := Lh hbz
 have HDl := Lh hdl
 have HId := Lh hid
 have HDs := Lh hds
 subst hus
 subst hA
 have hzz : w4.heap.size ≤ wz.heap.size := by omega
 clear hX1 hX2 hX3 hok hbz hdl hid hds huz huw hWy hby hbt hct hcs hcn hly hS hwd hbd hgl Hgs HX1r HX2r HX3r Hu1 Hol hub hari hRsig
 go_upto_region 10 with fail
 refine (fun (key : (?T : Prop)) => ?main) ?rest
 case main =>
  refine rg 8 (fun _ w' => Below wz.heap.size wz w') ?_
  intro wd hwd hbd
  refine ⟨?_, fun hS => ?_⟩
  · exact hwd ▸ hbd
  refine ta 0 (.pointer (some ⟨w.heap.size + 1, 0, none⟩)) hS fun hS => ?_
  refine tk 1 (.bool lp) hS ?_ fun hS => ?_
  · intro w' L hn hw
    have o1 := (HX2.out.low hw).cell 0
    simp [execOp, go_sem, o1]
  refine ta 2 (.slice (some ⟨kb, 0, none⟩) sig.length sig.length) hS fun hS => ?_
  refine ta 3 (.int .i64 sig.length) hS fun hS => ?_
  refine wpAnyS_all (rs := [4, 6]) (by kernel_rfl) (by simp) ?_
  intro q hq
  rcases List.mem_cons.1 hq with rfl | hq
  · refine wpOp_op (S := fun _ w' => Below wz.heap.size wz w') 4 (o := { dst := some 70, op := Op.makeSlice 36 (Operand.tmp 69) (Operand.tmp 69), type := 36, pos := "prec.go:136", after := #[{ on := 3, ground := Ground.data }, { on := 3, ground := Ground.data }], guard := none }) (listed := #[true, true, true, true, false, false, false, false]) (listed' := #[true, true, true, true, true, false, false, false]) rfl rfl (by rfl) ?_
    obtain ⟨pb, hpb⟩ : ∃ pb, wd.heap.size = pb := ⟨_, rfl⟩
    obtain ⟨wm, hmk, hom, hbm⟩ := make_ints wd sig.length hlen
    rw [hpb] at hmk hom
    refine wp_value (v := .slice (some ⟨pb, 0, none⟩) sig.length sig.length) (w' := wm) (by simp [execOp, go_sem, hmk]) ?_
    refine gS ?_ fun hS => ?_
    · exact hS.trans (hbm.mono hS.size)
    refine ta 5 (.agg #[.bool lp, .slice (some ⟨pb, 0, none⟩) sig.length sig.length, .slice none 0 0, .int .i64 0]) hS fun hS => ?_
    refine so 6 ?_
    refine wp_boxed (cs := #[.bool false, .slice none 0 0, .slice none 0 0, .int .i64 0]) (t := 38) (by simp [execOp, go_sem]) ?_
    intro xb w5 hxb hzb hlow hbx
    have hpl := (hom.lt pb rfl).2
    replace hom := hom.low hlow
    refine gS ?_ fun hS => ?_
    · exact hS.trans (hlow.mono hS.size)
    refine so 7 ?_
    have hzS := hS.size
    have hzd := hbd.size
    have hzm := hbm.size
    have hgp := (hom.lt pb rfl).2
    have hxp : xb ≠ pb := by omega
    have hxz : wz.heap.size ≤ xb ∧ wz.heap.size ≤ pb := by omega
    have y0 : w5.cell? ⟨xb, 0, none⟩ = some (.bool false) := hbx.cell 0
    have y1 : w5.cell? ⟨xb, 1, none⟩ = some (.slice none 0 0) := hbx.cell 1
    have y2 : w5.cell? ⟨xb, 2, none⟩ = some (.slice none 0 0) := hbx.cell 2
    have y3 : w5.cell? ⟨xb, 3, none⟩ = some (.int .i64 0) := hbx.cell 3
    have yf := hbx.free
    obtain ⟨hx9, hu9⟩ := store4 hbx (.bool lp) (.slice (some ⟨pb, 0, none⟩) sig.length sig.length) (.slice none 0 0) (.int .i64 0)
    refine wp_skip (w' := (((w5.setCell ⟨xb, 0, none⟩ (.bool lp)).setCell ⟨xb, 1, none⟩ (.slice (some ⟨pb, 0, none⟩) sig.length sig.length)).setCell ⟨xb, 2, none⟩ (.slice none 0 0)).setCell ⟨xb, 3, none⟩ (.int .i64 0)) (by simp [execOp, go_sem, y0, y1, y2, y3, yf]) ?_
    generalize (((w5.setCell ⟨xb, 0, none⟩ (.bool lp)).setCell ⟨xb, 1, none⟩ (.slice (some ⟨pb, 0, none⟩) sig.length sig.length)).setCell ⟨xb, 2, none⟩ (.slice none 0 0)).setCell ⟨xb, 3, none⟩ (.int .i64 0) = w6 at hx9 hu9 ⊢
    have hB6 := hS.trans (hu9.toLow hzS (by rintro k rfl; exact hxz.1))
    refine gS ?_ fun hS => ?_
    · exact hB6
    refine dn ?_
    have hF : Below wz.heap.size wz w6 ∧ BoxN xb 38 #[.bool lp, .slice (some ⟨pb, 0, none⟩) sig.length sig.length, .slice none 0 0, .int .i64 0] w6 ∧ Own w6 pb 3 1 (.slice (some ⟨pb, 0, none⟩) sig.length sig.length) (icells (List.replicate sig.length 0)) ∧ xb ≠ pb ∧ wz.heap.size ≤ xb ∧ wz.heap.size ≤ pb :=
     ⟨hB6, hx9, hom.upd hu9 (fun g hg e => hxp (by have hg2 : pb = g := (by simpa [Value.ownBlock] using hg); omega)), hxp, hxz⟩
    clear y0 y1 y2 y3 yf hx9 hu9 hB6 hxp hxz hgp hzm hzd hzS hS hbx hom hbm hmk hlow hzb hxb hpb hwd hbd
    try clear hpl
    revert w6
    revert xb
    revert pb
    exact key
  obtain rfl := List.mem_singleton.1 hq
  refine wpOp_op (S := fun _ w' => Below wz.heap.size wz w') 6 (o := { dst := some 12, op := Op.alloc 38, type := 0, pos := "prec.go:136", after := #[], guard := none }) (listed := #[true, true, true, true, false, false, false, false]) (listed' := #[true, true, true, true, false, false, true, false]) rfl rfl (by rfl) ?_
  refine wp_boxed (cs := #[.bool false, .slice none 0 0, .slice none 0 0, .int .i64 0]) (t := 38) (by simp [execOp, go_sem]) ?_
  intro xb wb hxb hzb hlow hbx
  refine gS ?_ fun hS => ?_
  · exact hS.trans (hlow.mono hS.size)
  refine so 4 ?_
  obtain ⟨pb, hpb⟩ : ∃ pb, wb.heap.size = pb := ⟨_, rfl⟩
  obtain ⟨w5, hmk, hom, hbm⟩ := make_ints wb sig.length hlen
  rw [hpb] at hmk hom
  replace hbx := hbx.low hbm
  refine wp_value (v := .slice (some ⟨pb, 0, none⟩) sig.length sig.length) (w' := w5) (by simp [execOp, go_sem, hmk]) ?_
  refine gS ?_ fun hS => ?_
  · exact hS.trans (hbm.mono hS.size)
  refine ta 5 (.agg #[.bool lp, .slice (some ⟨pb, 0, none⟩) sig.length sig.length, .slice none 0 0, .int .i64 0]) hS fun hS => ?_
  refine so 7 ?_
  have hzS := hS.size
  have hzd := hbd.size
  have hzm := hbm.size
  have hgp := (hom.lt pb rfl).2
  have hxp : xb ≠ pb := by omega
  have hxz : wz.heap.size ≤ xb ∧ wz.heap.size ≤ pb := by omega
  have y0 : w5.cell? ⟨xb, 0, none⟩ = some (.bool false) := hbx.cell 0
  have y1 : w5.cell? ⟨xb, 1, none⟩ = some (.slice none 0 0) := hbx.cell 1
  have y2 : w5.cell? ⟨xb, 2, none⟩ = some (.slice none 0 0) := hbx.cell 2
  have y3 : w5.cell? ⟨xb, 3, none⟩ = some (.int .i64 0) := hbx.cell 3
  have yf := hbx.free
  obtain ⟨hx9, hu9⟩ := store4 hbx (.bool lp) (.slice (some ⟨pb, 0, none⟩) sig.length sig.length) (.slice none 0 0) (.int .i64 0)
  refine wp_skip (w' := (((w5.setCell ⟨xb, 0, none⟩ (.bool lp)).setCell ⟨xb, 1, none⟩ (.slice (some ⟨pb, 0, none⟩) sig.length sig.length)).setCell ⟨xb, 2, none⟩ (.slice none 0 0)).setCell ⟨xb, 3, none⟩ (.int .i64 0)) (by simp [execOp, go_sem, y0, y1, y2, y3, yf]) ?_
  generalize (((w5.setCell ⟨xb, 0, none⟩ (.bool lp)).setCell ⟨xb, 1, none⟩ (.slice (some ⟨pb, 0, none⟩) sig.length sig.length)).setCell ⟨xb, 2, none⟩ (.slice none 0 0)).setCell ⟨xb, 3, none⟩ (.int .i64 0) = w6 at hx9 hu9 ⊢
  have hB6 := hS.trans (hu9.toLow hzS (by rintro k rfl; exact hxz.1))
  refine gS ?_ fun hS => ?_
  · exact hB6
  refine dn ?_
  have hF : Below wz.heap.size wz w6 ∧ BoxN xb 38 #[.bool lp, .slice (some ⟨pb, 0, none⟩) sig.length sig.length, .slice none 0 0, .int .i64 0] w6 ∧ Own w6 pb 3 1 (.slice (some ⟨pb, 0, none⟩) sig.length sig.length) (icells (List.replicate sig.length 0)) ∧ xb ≠ pb ∧ wz.heap.size ≤ xb ∧ wz.heap.size ≤ pb :=
   ⟨hB6, hx9, hom.upd hu9 (fun g hg e => hxp (by have hg2 : pb = g := (by simpa [Value.ownBlock] using hg); omega)), hxp, hxz⟩
  clear y0 y1 y2 y3 yf hx9 hu9 hB6 hxp hxz hgp hzm hzd hzS hS hbx hom hbm hmk hlow hzb hxb hpb hwd hbd
  try clear hpl
  revert w6
  revert xb
  revert pb
  exact key
 case rest =>
  intro pb xb w6 hF
  obtain ⟨hB6, hx6, ho6, hne6, hxz, hpz⟩ := hF
  have hzp := (ho6.lt pb rfl).2
  have hzx := ltOf hx6
  have hszz := hB6.size
  have hX2 := HX2.out.low hB6
  have hX3 := HX3.out.low hB6
  have hok := HOk.out.low hB6
  have hds := fun (j : Nat) (h : j < dl.length) => HDs.out j h
  have hrk := RkP.start (dl := dl) hN1
  have HX1 := Lh (HX1.out.low hB6)
  have HX2 := Lh hX2
  have HX3 := Lh hX3
  have HOk := Lh hok
  have HB6 := Lh hB6
  have HBw := Lh (HBz.out.trans (hB6.mono (by have := HBz.out.size; omega)))
  have HO6 := Lh ho6
  have Hx6 := Lh hx6
  have HRk := Lh hrk
  have hdn : dl.length + 1 = sig.length := HDl.out.len
  have HDn := Lh hdn
  clear hB6 hx6 ho6 hX2 hX3 hok hrk hds hdn
  go_upto_region 12 with fail
  go_loopw [13, 14, 74] (fun a b i wj => ∃ (k : Nat) (P : List Int), k ≤ dl.length ∧ i = .int .i64 k ∧ RkP sig.length dl k P ∧ Own wj pb 3 1 (.slice (some ⟨pb, 0, none⟩) sig.length sig.length) (icells P) ∧ Upd w6 wj (fun k => k = pb)) (fun _ _ i _ => dl.length - (intOf i).toNat)
  case atStart => exact ⟨0, _, Nat.zero_le _, rfl, HRk.out, HO6.out, Upd.refl _ _⟩
  obtain ⟨k, P, hk, rfl, hrk, hop, hup⟩ := hrel
  have hzr := hup.size
  have Hrk := Lh hrk
  have Hop := Lh hop
  have Hup := Lh hup
  clear hrk hop
  by_cases hlt : k < dl.length
  · have hlt2 : ¬ ((dl.length : Int) ≤ (k : Int)) := by omega
    obtain ⟨g, hA, hgl, hc⟩ := HDs.out k hlt
    subst hA
    have hcw : wr.cell? ⟨g, k, none⟩ = some (.int .i64 ((dl[k] : Nat) : Int)) := (World.cell?_of_block (a := ⟨g, k, none⟩) (hup.block g (by omega) (by omega))).trans ((World.cell?_of_block (a := ⟨g, k, none⟩) (HB6.out.block g hgl)).trans hc)
    have hdm := (HDl.out.mem dl[k]).1 (List.getElem_mem hlt)
    have hstep := Hrk.out.step HDl.out hlt
    obtain ⟨d, hd⟩ : ∃ d, dl[k] = d := ⟨_, rfl⟩
    rw [hd] at hcw hdm hstep
    have hPl := Hrk.out.len
    obtain ⟨g', hg', -, -, p0, pf⟩ := icells_at (j := d) Hop.out (by omega)
    injection hg' with hg'
    injection hg' with hg'
    subst hg'
    have hset := icells_set (j := d) Hop.out (((k : Nat) : Int) + 1)
    have q1 : wr.cell? ⟨xb, 1, none⟩ = some (.slice (some ⟨pb, 0, none⟩) sig.length sig.length) := (Hx6.out.upd hup hne6).cell 1
    have hdN : ¬ ((sig.length : Int) ≤ (d : Int)) := by omega
    have hd96 : dl.length ≤ 1000 := by have := HDn.out; omega
    have hup2 : Upd w6 (wr.setCell ⟨pb, d, none⟩ (.int .i64 (((k : Nat) : Int) + 1))) (fun k => k = pb) := hup.setCell _ _ (.inl rfl)
    have Hset := Lh hset
    have Hstep := Lh hstep
    have Hup2 := Lh hup2
    have hgw : g < wr.heap.size := by omega
    have hpw : pb < wr.heap.size := by omega
    generalize P[d] = pd at p0
    clear hset hstep hup2 hc hd hup hPl
    go_wp2_with fail
    go_roundw
    case rel => exact ⟨k + 1, _, by omega, by go_num, Hstep.out, Hset.out, Hup2.out⟩
    case measure => simp [intOf]; omega
  have hkk : k = dl.length := by omega
  subst hkk
  have q0 : wr.cell? ⟨w.heap.size + 1, 0, none⟩ = some (.bool lp) := (HX2.out.upd hup (by omega)).cell 0
  have hx12 := Hx6.out.upd hup hne6
  have hx3 := HX3.out.upd hup (by omega)
  have hbw := HBw.out.trans (hup.toLow (B := w.heap.size) (by omega) (by rintro k rfl; omega))
  have HX12 := Lh hx12
  have HX3r := Lh hx3
  have HBwr := Lh hbw
  have z0 : wr.cell? ⟨xb, 0, none⟩ = some (.bool lp) := hx12.cell 0
  have z1 : wr.cell? ⟨xb, 1, none⟩ = some (.slice (some ⟨pb, 0, none⟩) sig.length sig.length) := hx12.cell 1
  have z2 : wr.cell? ⟨xb, 2, none⟩ = some (.slice none 0 0) := hx12.cell 2
  have z3 : wr.cell? ⟨xb, 3, none⟩ = some (.int .i64 0) := hx12.cell 3
  have zf := hx12.free
  have hxl := ltOf hx12
  have v0 : wr.cell? ⟨w.heap.size + 1 + 1, 0, none⟩ = some (.bool false) := hx3.cell 0
  have v1 : wr.cell? ⟨w.heap.size + 1 + 1, 1, none⟩ = some (.slice none 0 0) := hx3.cell 1
  have v2 : wr.cell? ⟨w.heap.size + 1 + 1, 2, none⟩ = some (.slice none 0 0) := hx3.cell 2
  have v3 : wr.cell? ⟨w.heap.size + 1 + 1, 3, none⟩ = some (.int .i64 0) := hx3.cell 3
  have vf := hx3.free
  have hrs : w.heap.size + 1 + 1 < wr.heap.size := by omega
  clear hx12 hx3 hbw
  cases hlp : lp with
  | true =>
    subst hlp
    go_wp2_with fail
    obtain ⟨hx9, hu9⟩ := store4 HX3r.out (.bool true) (.slice (some ⟨pb, 0, none⟩) sig.length sig.length) (.slice none 0 0) (.int .i64 0)
    have hb9 := HBwr.out.trans (hu9.toLow (B := w.heap.size) (by omega) (by rintro k rfl; omega))
    have ho9 := Hop.out.upd hu9 (fun g hg e => by have hg2 : pb = g := (by simpa [Value.ownBlock] using hg); omega)
    generalize World.setCell _ _ _ = w9 at hx9 hu9 hb9 ho9 ⊢
    have y0 : w9.cell? ⟨w.heap.size + 1 + 1, 0, none⟩ = some (.bool true) := hx9.cell 0
    have y1 : w9.cell? ⟨w.heap.size + 1 + 1, 1, none⟩ = some (.slice (some ⟨pb, 0, none⟩) sig.length sig.length) := hx9.cell 1
    have y2 : w9.cell? ⟨w.heap.size + 1 + 1, 2, none⟩ = some (.slice none 0 0) := hx9.cell 2
    have y3 : w9.cell? ⟨w.heap.size + 1 + 1, 3, none⟩ = some (.int .i64 0) := hx9.cell 3
    have hPl := Hrk.out.len
    refine bodyPost_ret (v := .tuple #[.agg #[.bool true, .slice (some ⟨pb, 0, none⟩) sig.length sig.length, .slice none 0 0, .int .i64 0], .int .i64 0]) (by simp [results, Tryz.results5, go_sem, y0, y1, y2, y3]) rfl ⟨hb9, .inr ⟨hN1, hN2, ⟨true, P, [], 0⟩, some ⟨pb, 0, none⟩, none, sig.length, 0, by simp [hPl], ⟨?_, ?_⟩, rfl, ⟨dl, HDl.out, Hrk.out, fun h => HId.out (by omega)⟩, fun h => by cases h⟩⟩
    · have := icells_rd ho9 (by rw [hPl]; omega)
      show Rd w9 w9.heap.size (encIs P) (.slice (some ⟨pb, 0, none⟩) P.length sig.length)
      rw [hPl]
      exact this
    exact icells_rd (l := []) (Own.nil w9 w9.heap.size 3 1) (by simp)
  | false =>
    subst hlp
    go_upto_region 19 with fail
    obtain ⟨hx8, hu8⟩ := set1N HX12.out 3 (.int .i64 1) (cs' := #[.bool false, .slice (some ⟨pb, 0, none⟩) sig.length sig.length, .slice none 0 0, .int .i64 1]) (by simp)
    have ho8 := Hop.out.upd hu8 (fun g hg e => by have hg2 : pb = g := (by simpa [Value.ownBlock] using hg); omega)
    have hok8 := (HOk.out.upd hup (fun g hg e => by have hg2 : kb = g := (by simpa [Value.ownBlock] using hg); omega)).upd hu8 (fun g hg e => by have hg2 : kb = g := (by simpa [Value.ownBlock] using hg); omega)
    have hX18 := (HX1.out.upd hup (by omega)).upd hu8 (by omega)
    have hX28 := (HX2.out.upd hup (by omega)).upd hu8 (by omega)
    have hX38 := HX3r.out.upd hu8 (by omega)
    have hb8 := HBwr.out.trans (hu8.toLow (B := w.heap.size) (by omega) (by rintro k rfl; omega))
    have hz8 := hu8.size
    generalize wr.setCell ⟨xb, 3, none⟩ (.int .i64 1) = w8 at hx8 hu8 ho8 hok8 hX18 hX28 hX38 hb8 hz8 ⊢
    have q18 := hX18.cell
    have HX8 := Lh hx8
    have HO8 := Lh ho8
    have HOk8 := Lh hok8
    have HX18 := Lh hX18
    have HX28 := Lh hX28
    have HX38 := Lh hX38
    have HB8 := Lh hb8
    have hkb2 := (hok8.lt kb rfl).2
    clear hx8 hu8 ho8 hok8 hX18 hX28 hX38 hb8 q0 z0 z1 z2 z3 zf hxl v0 v1 v2 v3 vf HX12 Hx6 hup
    go_wp2_with fail
    clear q18
    go_loopw [93] (fun i wj => ∃ (k : Nat) (Aw : Option Addr) (cw : Nat), k ≤ sig.length ∧ i = .int .i64 k ∧ BoxN xb 38 #[.bool false, .slice (some ⟨pb, 0, none⟩) sig.length sig.length, .slice Aw k cw, .int .i64 1] wj ∧ Own wj w8.heap.size 3 1 (.slice Aw k cw) (icells ((List.range k).map (wOf (ariOf sig) (fun j => ls.getD j 0) P q tp))) ∧ Upd w8 wj (fun k => k = xb)) (fun i _ => sig.length - (intOf i).toNat)
    case atStart => exact ⟨0, none, 0, Nat.zero_le _, rfl, HX8.out, Own.nil _ _ _ _, Upd.refl _ _⟩
    obtain ⟨k, Aw, cw, hk, rfl, hxb, how, hup⟩ := hrel
    have hzj := hup.size
    have Hxb := Lh hxb
    have How := Lh how
    have Hup := Lh hup
    clear how
    by_cases hlt : k < sig.length
    · have hlt2 : ¬ ((sig.length : Int) ≤ (k : Int)) := by omega
      have hRs := HS.out.low (HB8.out.trans (hup.toLow (B := w.heap.size) (by omega) (by rintro k rfl; omega))) hB
      obtain ⟨ab', off', hA', -, s0, s1, s2⟩ := hRs.sy_at hlt
      injection hA' with hA'
      injection hA' with e1 e2
      subst e1 e2
      have har : ariOf sig k = sig[k].ar := by simp [ariOf, List.getElem?_eq_getElem hlt]
      rw [← har] at s1
      generalize sig[k].name = nm at s0
      generalize sig[k].pr = pd at s2
      obtain ⟨ar, hae⟩ : ∃ ar, ariOf sig k = ar := ⟨_, rfl⟩
      rw [hae] at s1
      have Har := Lh hae
      clear har hRs hxb hup hae
      go_upto_region 22 with fail
      have hxq := heap_alloc_new wr (.cells #[.string nm, .int .i64 ar, .bool pd] 65)
      have hxq : BoxN wr.heap.size 65 #[.string nm, .int .i64 ar, .bool pd] _ := hxq
      have hbq := below_box wr (.cells #[.string nm, .int .i64 ar, .bool pd] 65)
      have hzq : wr.heap.size < (wr.alloc (.cells #[.string nm, .int .i64 ar, .bool pd] 65)).heap.size := by simp
      generalize wr.alloc (.cells #[.string nm, .int .i64 ar, .bool pd] 65) = wq at hxq hbq hzq ⊢
      have hPl := Hrk.out.len
      have HXq := Lh hxq
      have HXbq := Lh (Hxb.out.low hbq)
      have HOpq := Lh ((HO8.out.upd Hup.out (fun g hg e => by have hg2 : pb = g := (by simpa [Value.ownBlock] using hg); omega)).low hbq)
      have HOkq := Lh ((HOk8.out.upd Hup.out (fun g hg e => by have hg2 : kb = g := (by simpa [Value.ownBlock] using hg); omega)).low hbq)
      have HX2q := Lh ((HX28.out.upd Hup.out (by omega)).low hbq)
      have Hbq := Lh hbq
      have hPk : P[k]? = some P[k] := List.getElem?_eq_getElem (by omega)
      have hPlo := Hrk.out.lo P[k] (List.getElem_mem (by omega))
      have hlk : ls[k]? = some ls[k] := List.getElem?_eq_getElem (by omega)
      have hllo := Hll.out ls[k] (List.getElem_mem (by omega))
      have hd96 : dl.length ≤ 1000 := by have := HDn.out; omega
      have hcellP : ∀ w', Below wq.heap.size wq w' → w'.cell? ⟨pb, k, none⟩ = some (.int .i64 P[k]) := fun w' hb => by
       obtain ⟨g, hg, -, -, h1, -⟩ := icells_at (j := k) (HOpq.out.low hb) (by omega)
       injection hg with hg
       injection hg with hg
       subst hg
       exact h1
      have hcellK : ∀ w', Below wq.heap.size wq w' → w'.cell? ⟨kb, k, none⟩ = some (.int .i64 ls[k]) := fun w' hb => by
       obtain ⟨g, hg, -, -, h1, -⟩ := icells_at (j := k) (HOkq.out.low hb) (by omega)
       injection hg with hg
       injection hg with hg
       subst hg
       exact h1
      have HcP := Lh hcellP
      have HcK := Lh hcellK
      have Hpk := Lh hPk
      have Hlk := Lh hlk
      obtain ⟨pk, hpk⟩ : ∃ pk, P[k] = pk := ⟨_, rfl⟩
      obtain ⟨lk, hlk2⟩ : ∃ lk, ls[k] = lk := ⟨_, rfl⟩
      rw [hpk] at HcP Hpk hPlo
      rw [hlk2] at HcK Hlk hllo
      clear hcellP hcellK hPk hlk hpk hlk2 hxq hbq hPl
      have hw1 : IntKind.i64.wrap (pk + 1) = pk + 1 := wr64 _ (by omega)
      have hw2 : IntKind.i64.wrap (lk + 1) = lk + 1 := wr64 _ (by omega)
      refine rg 20 (fun _ w' => Below wq.heap.size wq w') ?_
      intro wd hwd hbd
      refine ⟨?_, fun hS => ?_⟩
      · exact hwd ▸ hbd
      refine ta 0 (.pointer (some ⟨wr.heap.size, 1, none⟩)) hS fun hS => ?_
      refine tk 1 (.int .i64 ar) hS ?_ fun hS => ?_
      · intro w' L hn hw
        have o1 : w'.cell? ⟨wr.heap.size, 1, none⟩ = some (.int .i64 ar) := (HXq.out.low hw).cell 1
        simp [execOp, go_sem, o1]
      refine ta 2 (.int .i64 (IntKind.i64.wrap (ar + 1))) hS fun hS => ?_
      refine ta 3 (.pointer (some ⟨xb, 1, none⟩)) hS fun hS => ?_
      refine tk 4 (.slice (some ⟨pb, 0, none⟩) sig.length sig.length) hS ?_ fun hS => ?_
      · intro w' L hn hw
        have o4 : w'.cell? ⟨xb, 1, none⟩ = some (.slice (some ⟨pb, 0, none⟩) sig.length sig.length) := (HXbq.out.low hw).cell 1
        simp [execOp, go_sem, o4]
      refine ta 5 (.int .i64 (k : Nat)) hS fun hS => ?_
      refine tk 6 (.pointer (some ⟨pb, k, none⟩)) hS ?_ fun hS => ?_
      · intros; simp [execOp, go_sem, hlt, hlt2]
      refine tk 7 (.int .i64 pk) hS ?_ fun hS => ?_
      · intro w' L hn hw
        have o7 := HcP.out w' hw
        simp [execOp, go_sem, o7]
      refine tk 8 (.int .i64 (pk + 1)) hS ?_ fun hS => ?_
      · intros; simp [execOp, go_sem, hw1]
      refine ta 9 (.slice (some ⟨kb, 0, none⟩) sig.length sig.length) hS fun hS => ?_
      refine ta 10 (.int .i64 (k : Nat)) hS fun hS => ?_
      refine tk 11 (.pointer (some ⟨kb, k, none⟩)) hS ?_ fun hS => ?_
      · intros; simp [execOp, go_sem, hlt, hlt2]
      refine tk 12 (.int .i64 lk) hS ?_ fun hS => ?_
      · intro w' L hn hw
        have o12 := HcK.out w' hw
        simp [execOp, go_sem, o12]
      refine tk 13 (.int .i64 (lk + 1)) hS ?_ fun hS => ?_
      · intros; simp [execOp, go_sem, hw2]
      refine ta 15 (.pointer (some ⟨w.heap.size + 1, 2, none⟩)) hS fun hS => ?_
      refine tk 16 (.int .i64 (q : Nat)) hS ?_ fun hS => ?_
      · intro w' L hn hw
        have o16 : w'.cell? ⟨w.heap.size + 1, 2, none⟩ = some (.int .i64 (q : Nat)) := (HX2q.out.low hw).cell 2
        simp [execOp, go_sem, o16]
      refine so 14 ?_
      refine wp_sliced (n := 4) (cs := #[.int .i64 1, .int .i64 (IntKind.i64.wrap (ar + 1)), .int .i64 (pk + 1), .int .i64 (lk + 1)]) (t := 3) (by simp [execOp, go_sem]) ?_
      intro gb wF hgb hzF hlF hxF
      refine gS ?_ fun hS => ?_
      · exact hS.trans (hlF.mono hS.size)
      refine so 17 ?_
      have hqi : ¬ ((4 : Int) ≤ ((q : Nat) : Int)) := by omega
      refine wp_value (v := .pointer (some ⟨gb, q, none⟩)) (w' := wF) (by simp [execOp, go_sem, hq4, hqi]) ?_
      refine gS ?_ fun hS => ?_
      · exact hS
      refine so 18 ?_
      have hb0 : wF.cell? ⟨gb, q, none⟩ = some (.int .i64 (bOf (ariOf sig) (fun j => ls.getD j 0) P q k)) := by
       rw [hxF.cell q]
       unfold bOf
       rcases (by omega : q = 0 ∨ q = 1 ∨ q = 2 ∨ q = 3) with rfl | rfl | rfl | rfl
       · rfl
       · simp [Har.out]
       · simp [List.getD_eq_getElem?_getD, Hpk.out]
       simp [List.getD_eq_getElem?_getD, Hlk.out]
      refine wp_value (v := .int .i64 (bOf (ariOf sig) (fun j => ls.getD j 0) P q k)) (w' := wF) (by simp [execOp, go_sem, hb0]) ?_
      refine gS ?_ fun hS => ?_
      · exact hS
      refine ta 19 (.int .i64 (bOf (ariOf sig) (fun j => ls.getD j 0) P q k)) hS fun hS => ?_
      refine dn ?_
      have hsF := hS.size
      have hX2F := HX2q.out.low hS
      have HXbF := Lh (HXbq.out.low hS)
      have HOpF := Lh (HOpq.out.low hS)
      have HcPF := fun w' (hb : Below wF.heap.size wF w') => HcP.out w' (hS.trans (hb.mono hsF))
      have HSF := Lh (Hbq.out.trans (hS.mono (by omega)))
      have HowF := Lh (How.out.low HSF.out)
      have HUF := Lh (Hup.out.trans (Upd.low HSF.out (fun i => i = xb)) (fun i hi => .inl hi))
      have hXqF := HXq.out.low hS
      have hwo : ∀ x : Int, x = (if k = 0 then 1 else if tp = true ∧ ar = 1 ∧ Lib.maxOf P = P.getD k 0 then 0 else bOf (ariOf sig) (fun j => ls.getD j 0) P q k) → wOf (ariOf sig) (fun j => ls.getD j 0) P q tp k = min x 1000 := fun x hx => by
       unfold wOf
       rw [Har.out, hx]
      generalize bOf (ariOf sig) (fun j => ls.getD j 0) P q k = bo at hwo ⊢
      have Hwo := Lh hwo
      have t3 : wF.cell? ⟨w.heap.size + 1, 3, none⟩ = some (.bool tp) := hX2F.cell 3
      have t1 : wF.cell? ⟨wr.heap.size, 1, none⟩ = some (.int .i64 ar) := hXqF.cell 1
      have b1 : wF.cell? ⟨xb, 1, none⟩ = some (.slice (some ⟨pb, 0, none⟩) sig.length sig.length) := HXbF.out.cell 1
      have b2 : wF.cell? ⟨xb, 2, none⟩ = some (.slice Aw k cw) := HXbF.out.cell 2
      have hbf := HXbF.out.free
      clear hS hwo hX2F hXqF hlF hxF hzF hgb hw1 hw2 hwd hbd hllo hPlo
      by_cases hk0 : k = 0
      · have hkb0 : (((k : Nat) : Int) == 0) = true := by rw [hk0]; rfl
        have hW := Hwo.out 1 (by rw [if_pos hk0])
        have HW := Lh hW
        clear hW hk0
        go_wp2_with (
         at_builtin
         refine wpList_push _ rfl (.tmp 135) (.tmp 138) _ rfl nsT (base := w8.heap.size) (v := .slice Aw k cw) (rows := icells ((List.range k).map (wOf (ariOf sig) (fun j => ls.getD j 0) P q tp))) rfl (HowF.out.alloc _) (g := wF.heap.size) (cells := #[.int .i64 (min 1 1000)]) rfl (heap_alloc_new wF _) rfl (by intro y hy; simp at hy; rcases hy with rfl; rfl) (by rw [icells_len, List.length_map, List.length_range]; omega) (by rw [icells_len, List.length_map, List.length_range]; unfold maxLen; omega) (by simp; omega) ?_
         intro v5 w5 hown5 hup5 _
         have hown5 : Own w5 w8.heap.size 3 1 v5 (icells ((List.range (k + 1)).map (wOf (ariOf sig) (fun j => ls.getD j 0) P q tp))) := by rw [List.range_succ, List.map_append, List.map_cons, List.map_nil, icells_push, HW.out]; exact hown5
         obtain ⟨A5, c5, hv5, -, -⟩ := hown5.form
         rw [icells_len, List.length_map, List.length_range] at hv5
         subst hv5
         have hgw5 : ∀ g, (Value.slice Aw k cw).ownBlock = some g → w8.heap.size ≤ g := fun g hg => (HowF.out.lt g hg).1
         have hxb5 := (HXbF.out.low (below_box wF (.cells #[.int .i64 (min 1 1000)] 3))).upd hup5 (fun hk => by have := hgw5 _ hk; omega)
         have hup6 : Upd w8 w5 (fun i => i = xb) := (HUF.out.trans (Upd.low (below_box wF (.cells #[.int .i64 (min 1 1000)] 3)) (fun i => i = xb)) (fun i hi => .inl hi)).trans hup5 (fun i hi => .inr (hgw5 i hi))
         have g2 : w5.cell? ⟨xb, 2, none⟩ = some (.slice Aw k cw) := hxb5.cell 2
         have gf := hxb5.free
         have Hown5 := Lh hown5
         have Hxb5 := Lh hxb5
         have Hup6 := Lh hup6
         clear hown5 hup5 hgw5 hxb5 hup6)
        obtain ⟨hxb7, hu7⟩ := set1N Hxb5.out 2 (.slice A5 (k + 1) c5) (cs' := #[.bool false, .slice (some ⟨pb, 0, none⟩) sig.length sig.length, .slice A5 (k + 1) c5, .int .i64 1]) (by simp)
        have hown7 := Hown5.out.upd hu7 (fun g hg e => by have := (Hown5.out.lt g hg).1; omega)
        have Hxb7 := Lh hxb7
        have Hown7 := Lh hown7
        have Hup7 := Lh (Hup6.out.trans hu7 (fun i hi => .inl hi))
        clear hxb7 hown7 hu7
        go_roundw
        case rel => exact ⟨k + 1, A5, c5, by omega, by go_num, Hxb7.out, Hown7.out, Hup7.out⟩
        case measure => simp [intOf]; omega
      have hkb0 : (((k : Nat) : Int) == 0) = false := by rw [beq_eq_false_iff_ne]; omega
      rcases (by cases tp <;> simp : tp = false ∨ tp = true) with htp | htp
      · skip
        have hW := Hwo.out bo (by rw [if_neg hk0, if_neg (by rw [htp]; simp)])
        rw [htp] at t3
        have HW := Lh hW
        clear hW htp
        go_wp2_with (
         at_builtin
         refine wpList_push _ rfl (.tmp 135) (.tmp 138) _ rfl nsT (base := w8.heap.size) (v := .slice Aw k cw) (rows := icells ((List.range k).map (wOf (ariOf sig) (fun j => ls.getD j 0) P q tp))) rfl (HowF.out.alloc _) (g := wF.heap.size) (cells := #[.int .i64 (min bo 1000)]) rfl (heap_alloc_new wF _) rfl (by intro y hy; simp at hy; rcases hy with rfl; rfl) (by rw [icells_len, List.length_map, List.length_range]; omega) (by rw [icells_len, List.length_map, List.length_range]; unfold maxLen; omega) (by simp; omega) ?_
         intro v5 w5 hown5 hup5 _
         have hown5 : Own w5 w8.heap.size 3 1 v5 (icells ((List.range (k + 1)).map (wOf (ariOf sig) (fun j => ls.getD j 0) P q tp))) := by rw [List.range_succ, List.map_append, List.map_cons, List.map_nil, icells_push, HW.out]; exact hown5
         obtain ⟨A5, c5, hv5, -, -⟩ := hown5.form
         rw [icells_len, List.length_map, List.length_range] at hv5
         subst hv5
         have hgw5 : ∀ g, (Value.slice Aw k cw).ownBlock = some g → w8.heap.size ≤ g := fun g hg => (HowF.out.lt g hg).1
         have hxb5 := (HXbF.out.low (below_box wF (.cells #[.int .i64 (min bo 1000)] 3))).upd hup5 (fun hk => by have := hgw5 _ hk; omega)
         have hup6 : Upd w8 w5 (fun i => i = xb) := (HUF.out.trans (Upd.low (below_box wF (.cells #[.int .i64 (min bo 1000)] 3)) (fun i => i = xb)) (fun i hi => .inl hi)).trans hup5 (fun i hi => .inr (hgw5 i hi))
         have g2 : w5.cell? ⟨xb, 2, none⟩ = some (.slice Aw k cw) := hxb5.cell 2
         have gf := hxb5.free
         have Hown5 := Lh hown5
         have Hxb5 := Lh hxb5
         have Hup6 := Lh hup6
         clear hown5 hup5 hgw5 hxb5 hup6)
        obtain ⟨hxb7, hu7⟩ := set1N Hxb5.out 2 (.slice A5 (k + 1) c5) (cs' := #[.bool false, .slice (some ⟨pb, 0, none⟩) sig.length sig.length, .slice A5 (k + 1) c5, .int .i64 1]) (by simp)
        have hown7 := Hown5.out.upd hu7 (fun g hg e => by have := (Hown5.out.lt g hg).1; omega)
        have Hxb7 := Lh hxb7
        have Hown7 := Lh hown7
        have Hup7 := Lh (Hup6.out.trans hu7 (fun i hi => .inl hi))
        clear hxb7 hown7 hu7
        go_roundw
        case rel => exact ⟨k + 1, A5, c5, by omega, by go_num, Hxb7.out, Hown7.out, Hup7.out⟩
        case measure => simp [intOf]; omega
      skip
      rw [htp] at t3
      have Htp := Lh htp
      clear htp
      by_cases har1 : ar = 1
      · have harb : (ar == 1) = true := by rw [har1]; rfl
        have Har1 := Lh har1
        clear har1
        go_wp2_with fail
        refine (highest_any pb sig.length sig.length k P wF Hrk.out.len hlt (by omega) (fun j hj => ?_) (by omega)).mono ?_
        · obtain ⟨g, hg, -, -, h1, -⟩ := icells_at (j := j) HOpF.out (by rw [Hrk.out.len]; exact hj)
          injection hg with hg
          injection hg with hg
          subst hg
          rw [h1, List.getD_eq_getElem?_getD, List.getElem?_eq_getElem]
          rfl
        rintro e wH ⟨rfl, hbH⟩
        have hzH := hbH.size
        have HowH := Lh (HowF.out.low hbH)
        have HUH := Lh (HUF.out.trans (Upd.low hbH (fun i => i = xb)) (fun i hi => .inl hi))
        have HXbH := Lh (HXbF.out.low hbH)
        have b22 : wH.cell? ⟨xb, 2, none⟩ = some (.slice Aw k cw) := HXbH.out.cell 2
        have hbf2 := HXbH.out.free
        clear b1 b2 hbf t1 t3 hbH
        by_cases hmx : Lib.maxOf P = P.getD k 0
        · have hdm : decide (Lib.maxOf P = P.getD k 0) = true := decide_eq_true hmx
          rw [hdm]
          have hW := Hwo.out 0 (by rw [if_neg hk0, if_pos ⟨Htp.out, Har1.out, hmx⟩])
          have HW := Lh hW
          clear hW hmx hdm
          go_wp2_with (
           at_builtin
           refine wpList_push _ rfl (.tmp 135) (.tmp 138) _ rfl nsT (base := w8.heap.size) (v := .slice Aw k cw) (rows := icells ((List.range k).map (wOf (ariOf sig) (fun j => ls.getD j 0) P q tp))) rfl (HowH.out.alloc _) (g := wH.heap.size) (cells := #[.int .i64 (min 0 1000)]) rfl (heap_alloc_new wH _) rfl (by intro y hy; simp at hy; rcases hy with rfl; rfl) (by rw [icells_len, List.length_map, List.length_range]; omega) (by rw [icells_len, List.length_map, List.length_range]; unfold maxLen; omega) (by simp; omega) ?_
           intro v5 w5 hown5 hup5 _
           have hown5 : Own w5 w8.heap.size 3 1 v5 (icells ((List.range (k + 1)).map (wOf (ariOf sig) (fun j => ls.getD j 0) P q tp))) := by rw [List.range_succ, List.map_append, List.map_cons, List.map_nil, icells_push, HW.out]; exact hown5
           obtain ⟨A5, c5, hv5, -, -⟩ := hown5.form
           rw [icells_len, List.length_map, List.length_range] at hv5
           subst hv5
           have hgw5 : ∀ g, (Value.slice Aw k cw).ownBlock = some g → w8.heap.size ≤ g := fun g hg => (HowH.out.lt g hg).1
           have hxb5 := (HXbH.out.low (below_box wH (.cells #[.int .i64 (min 0 1000)] 3))).upd hup5 (fun hk => by have := hgw5 _ hk; omega)
           have hup6 : Upd w8 w5 (fun i => i = xb) := (HUH.out.trans (Upd.low (below_box wH (.cells #[.int .i64 (min 0 1000)] 3)) (fun i => i = xb)) (fun i hi => .inl hi)).trans hup5 (fun i hi => .inr (hgw5 i hi))
           have g2 : w5.cell? ⟨xb, 2, none⟩ = some (.slice Aw k cw) := hxb5.cell 2
           have gf := hxb5.free
           have Hown5 := Lh hown5
           have Hxb5 := Lh hxb5
           have Hup6 := Lh hup6
           clear hown5 hup5 hgw5 hxb5 hup6)
          obtain ⟨hxb7, hu7⟩ := set1N Hxb5.out 2 (.slice A5 (k + 1) c5) (cs' := #[.bool false, .slice (some ⟨pb, 0, none⟩) sig.length sig.length, .slice A5 (k + 1) c5, .int .i64 1]) (by simp)
          have hown7 := Hown5.out.upd hu7 (fun g hg e => by have := (Hown5.out.lt g hg).1; omega)
          have Hxb7 := Lh hxb7
          have Hown7 := Lh hown7
          have Hup7 := Lh (Hup6.out.trans hu7 (fun i hi => .inl hi))
          clear hxb7 hown7 hu7
          go_roundw
          case rel => exact ⟨k + 1, A5, c5, by omega, by go_num, Hxb7.out, Hown7.out, Hup7.out⟩
          case measure => simp [intOf]; omega
        have hdm : decide (Lib.maxOf P = P.getD k 0) = false := decide_eq_false hmx
        rw [hdm]
        have hW := Hwo.out bo (by rw [if_neg hk0, if_neg (fun h => hmx h.2.2)])
        have HW := Lh hW
        clear hW hmx hdm
        go_wp2_with (
         at_builtin
         refine wpList_push _ rfl (.tmp 135) (.tmp 138) _ rfl nsT (base := w8.heap.size) (v := .slice Aw k cw) (rows := icells ((List.range k).map (wOf (ariOf sig) (fun j => ls.getD j 0) P q tp))) rfl (HowH.out.alloc _) (g := wH.heap.size) (cells := #[.int .i64 (min bo 1000)]) rfl (heap_alloc_new wH _) rfl (by intro y hy; simp at hy; rcases hy with rfl; rfl) (by rw [icells_len, List.length_map, List.length_range]; omega) (by rw [icells_len, List.length_map, List.length_range]; unfold maxLen; omega) (by simp; omega) ?_
         intro v5 w5 hown5 hup5 _
         have hown5 : Own w5 w8.heap.size 3 1 v5 (icells ((List.range (k + 1)).map (wOf (ariOf sig) (fun j => ls.getD j 0) P q tp))) := by rw [List.range_succ, List.map_append, List.map_cons, List.map_nil, icells_push, HW.out]; exact hown5
         obtain ⟨A5, c5, hv5, -, -⟩ := hown5.form
         rw [icells_len, List.length_map, List.length_range] at hv5
         subst hv5
         have hgw5 : ∀ g, (Value.slice Aw k cw).ownBlock = some g → w8.heap.size ≤ g := fun g hg => (HowH.out.lt g hg).1
         have hxb5 := (HXbH.out.low (below_box wH (.cells #[.int .i64 (min bo 1000)] 3))).upd hup5 (fun hk => by have := hgw5 _ hk; omega)
         have hup6 : Upd w8 w5 (fun i => i = xb) := (HUH.out.trans (Upd.low (below_box wH (.cells #[.int .i64 (min bo 1000)] 3)) (fun i => i = xb)) (fun i hi => .inl hi)).trans hup5 (fun i hi => .inr (hgw5 i hi))
         have g2 : w5.cell? ⟨xb, 2, none⟩ = some (.slice Aw k cw) := hxb5.cell 2
         have gf := hxb5.free
         have Hown5 := Lh hown5
         have Hxb5 := Lh hxb5
         have Hup6 := Lh hup6
         clear hown5 hup5 hgw5 hxb5 hup6)
        obtain ⟨hxb7, hu7⟩ := set1N Hxb5.out 2 (.slice A5 (k + 1) c5) (cs' := #[.bool false, .slice (some ⟨pb, 0, none⟩) sig.length sig.length, .slice A5 (k + 1) c5, .int .i64 1]) (by simp)
        have hown7 := Hown5.out.upd hu7 (fun g hg e => by have := (Hown5.out.lt g hg).1; omega)
        have Hxb7 := Lh hxb7
        have Hown7 := Lh hown7
        have Hup7 := Lh (Hup6.out.trans hu7 (fun i hi => .inl hi))
        clear hxb7 hown7 hu7
        go_roundw
        case rel => exact ⟨k + 1, A5, c5, by omega, by go_num, Hxb7.out, Hown7.out, Hup7.out⟩
        case measure => simp [intOf]; omega
      have harb : (ar == 1) = false := by rw [beq_eq_false_iff_ne]; exact har1
      have hW := Hwo.out bo (by rw [if_neg hk0, if_neg (fun h => har1 h.2.1)])
      have HW := Lh hW
      clear hW har1
      go_wp2_with (
       at_builtin
       refine wpList_push _ rfl (.tmp 135) (.tmp 138) _ rfl nsT (base := w8.heap.size) (v := .slice Aw k cw) (rows := icells ((List.range k).map (wOf (ariOf sig) (fun j => ls.getD j 0) P q tp))) rfl (HowF.out.alloc _) (g := wF.heap.size) (cells := #[.int .i64 (min bo 1000)]) rfl (heap_alloc_new wF _) rfl (by intro y hy; simp at hy; rcases hy with rfl; rfl) (by rw [icells_len, List.length_map, List.length_range]; omega) (by rw [icells_len, List.length_map, List.length_range]; unfold maxLen; omega) (by simp; omega) ?_
       intro v5 w5 hown5 hup5 _
       have hown5 : Own w5 w8.heap.size 3 1 v5 (icells ((List.range (k + 1)).map (wOf (ariOf sig) (fun j => ls.getD j 0) P q tp))) := by rw [List.range_succ, List.map_append, List.map_cons, List.map_nil, icells_push, HW.out]; exact hown5
       obtain ⟨A5, c5, hv5, -, -⟩ := hown5.form
       rw [icells_len, List.length_map, List.length_range] at hv5
       subst hv5
       have hgw5 : ∀ g, (Value.slice Aw k cw).ownBlock = some g → w8.heap.size ≤ g := fun g hg => (HowF.out.lt g hg).1
       have hxb5 := (HXbF.out.low (below_box wF (.cells #[.int .i64 (min bo 1000)] 3))).upd hup5 (fun hk => by have := hgw5 _ hk; omega)
       have hup6 : Upd w8 w5 (fun i => i = xb) := (HUF.out.trans (Upd.low (below_box wF (.cells #[.int .i64 (min bo 1000)] 3)) (fun i => i = xb)) (fun i hi => .inl hi)).trans hup5 (fun i hi => .inr (hgw5 i hi))
       have g2 : w5.cell? ⟨xb, 2, none⟩ = some (.slice Aw k cw) := hxb5.cell 2
       have gf := hxb5.free
       have Hown5 := Lh hown5
       have Hxb5 := Lh hxb5
       have Hup6 := Lh hup6
       clear hown5 hup5 hgw5 hxb5 hup6)
      obtain ⟨hxb7, hu7⟩ := set1N Hxb5.out 2 (.slice A5 (k + 1) c5) (cs' := #[.bool false, .slice (some ⟨pb, 0, none⟩) sig.length sig.length, .slice A5 (k + 1) c5, .int .i64 1]) (by simp)
      have hown7 := Hown5.out.upd hu7 (fun g hg e => by have := (Hown5.out.lt g hg).1; omega)
      have Hxb7 := Lh hxb7
      have Hown7 := Lh hown7
      have Hup7 := Lh (Hup6.out.trans hu7 (fun i hi => .inl hi))
      clear hxb7 hown7 hu7
      go_roundw
      case rel => exact ⟨k + 1, A5, c5, by omega, by go_num, Hxb7.out, Hown7.out, Hup7.out⟩
      case measure => simp [intOf]; omega
    have hkk : k = sig.length := by omega
    subst hkk
    have hX3 := HX38.out.upd Hup.out (by omega)
    have z0 : wr.cell? ⟨xb, 0, none⟩ = some (.bool false) := hxb.cell 0
    have z1 : wr.cell? ⟨xb, 1, none⟩ = some (.slice (some ⟨pb, 0, none⟩) sig.length sig.length) := hxb.cell 1
    have z2 : wr.cell? ⟨xb, 2, none⟩ = some (.slice Aw sig.length cw) := hxb.cell 2
    have z3 : wr.cell? ⟨xb, 3, none⟩ = some (.int .i64 1) := hxb.cell 3
    have v0 : wr.cell? ⟨w.heap.size + 1 + 1, 0, none⟩ = some (.bool false) := hX3.cell 0
    have v1 : wr.cell? ⟨w.heap.size + 1 + 1, 1, none⟩ = some (.slice none 0 0) := hX3.cell 1
    have v2 : wr.cell? ⟨w.heap.size + 1 + 1, 2, none⟩ = some (.slice none 0 0) := hX3.cell 2
    have v3 : wr.cell? ⟨w.heap.size + 1 + 1, 3, none⟩ = some (.int .i64 0) := hX3.cell 3
    have vf := hX3.free
    have HX3w := Lh hX3
    clear hX3 hxb hup
    go_wp2_with fail
    obtain ⟨hx9, hu9⟩ := store4 HX3w.out (.bool false) (.slice (some ⟨pb, 0, none⟩) sig.length sig.length) (.slice Aw sig.length cw) (.int .i64 1)
    have hb9 := (HB8.out.trans (Hup.out.toLow (B := w.heap.size) (by omega) (by rintro k rfl; omega))).trans (hu9.toLow (B := w.heap.size) (by omega) (by rintro k rfl; omega))
    have ho9 := (HO8.out.upd Hup.out (fun g hg e => by have hg2 : pb = g := (by simpa [Value.ownBlock] using hg); omega)).upd hu9 (fun g hg e => by have hg2 : pb = g := (by simpa [Value.ownBlock] using hg); omega)
    have how9 := How.out.upd hu9 (fun g hg e => by have := (How.out.lt g hg).1; omega)
    generalize World.setCell _ _ _ = w9 at hx9 hu9 hb9 ho9 how9 ⊢
    have y0 : w9.cell? ⟨w.heap.size + 1 + 1, 0, none⟩ = some (.bool false) := hx9.cell 0
    have y1 : w9.cell? ⟨w.heap.size + 1 + 1, 1, none⟩ = some (.slice (some ⟨pb, 0, none⟩) sig.length sig.length) := hx9.cell 1
    have y2 : w9.cell? ⟨w.heap.size + 1 + 1, 2, none⟩ = some (.slice Aw sig.length cw) := hx9.cell 2
    have y3 : w9.cell? ⟨w.heap.size + 1 + 1, 3, none⟩ = some (.int .i64 1) := hx9.cell 3
    have hPl := Hrk.out.len
    have hll0 : ∀ j, 0 ≤ ls.getD j 0 := fun j => by
     rw [List.getD_eq_getElem?_getD]
     by_cases hj : j < ls.length
     · rw [List.getElem?_eq_getElem hj]; exact (Hll.out _ (List.getElem_mem hj)).1
     rw [List.getElem?_eq_none (by omega)]; exact Int.le_refl _
    refine bodyPost_ret (v := .tuple #[.agg #[.bool false, .slice (some ⟨pb, 0, none⟩) sig.length sig.length, .slice Aw sig.length cw, .int .i64 1], .int .i64 0]) (by simp [results, Tryz.results5, go_sem, y0, y1, y2, y3]) rfl ⟨hb9, .inr ⟨hN1, hN2, ⟨false, P, (List.range sig.length).map (wOf (ariOf sig) (fun j => ls.getD j 0) P q tp), 1⟩, some ⟨pb, 0, none⟩, Aw, sig.length, cw, by simp [hPl], ⟨?_, ?_⟩, rfl, ⟨dl, HDl.out, Hrk.out, fun h => HId.out (by omega)⟩, fun _ => ⟨rfl, _, hll0, rfl⟩⟩⟩
    · have := icells_rd ho9 (by rw [hPl]; omega)
      show Rd w9 w9.heap.size (encIs P) (.slice (some ⟨pb, 0, none⟩) P.length sig.length)
      rw [hPl]
      exact this
    have := icells_rd how9 (by simp; omega)
    show Rd w9 w9.heap.size (encIs ((List.range sig.length).map (wOf (ariOf sig) (fun j => ls.getD j 0) P q tp))) (.slice Aw ((List.range sig.length).map (wOf (ariOf sig) (fun j => ls.getD j 0) P q tp)).length cw)
    rw [List.length_map, List.length_range]
    exact this
def SomeInt (w : World) (e : Ending) (w' : World) : Prop := ∃ i : Int, e = .returned (.int .i64 i) ∧ Below w.heap.size w w'
def SomeBool (w : World) (e : Ending) (w' : World) : Prop := ∃ b : Bool, e = .returned (.bool b) ∧ Below w.heap.size w w'
def One1R (s : Sy) (w : World) (e : Ending) (w' : World) : Prop := ∃ i : Int, e = .returned (.int .i64 i) ∧ Below w.heap.size w w' ∧ (i = 0 → 0 ≤ s.ar ∧ s.ar ≤ 6)
theorem named_any (s : ByteArray) (w : World) : Calls Tryz.prog 87 #[.string s] w (SomeBool w) := by
 by_cases h1 : s.size < 1
 · have h1' : (s.size : Int) < 1 := by omega
   go_enter Tryz.func87, Tryz.ntmps87
   go_wp2_with fail
   go_ret
   exact ⟨_, rfl, Below.refl _ _⟩
 by_cases h2 : 40 < s.size
 · have h1' : ¬ (s.size : Int) < 1 := by omega
   have h2' : (40 : Int) < (s.size : Int) := by omega
   go_enter Tryz.func87, Tryz.ntmps87
   go_wp2_with fail
   go_ret
   exact ⟨_, rfl, Below.refl _ _⟩
 have h1' : ¬ (s.size : Int) < 1 := by omega
 have h2' : ¬ (40 : Int) < (s.size : Int) := by omega
 go_enter Tryz.func87, Tryz.ntmps87
 go_wp2_with fail
 clear h1' h2'
 go_loopw [3] (fun i wr => ∃ k : Nat, k ≤ s.size ∧ i = .int .i64 k ∧ Below w.heap.size w wr) (fun i _ => s.size - (intOf i).toNat)
 case atStart => exact ⟨0, Nat.zero_le _, rfl, Below.refl _ _⟩
 obtain ⟨k, hk, rfl, hbel⟩ := hrel
 have Hbel := Lh hbel
 clear hbel
 by_cases hlt : k < s.size
 · obtain ⟨c, hcc⟩ : ∃ c, s[k].toNat = c := ⟨_, rfl⟩
   by_cases a1 : 97 ≤ c
   · have a1' : (97 : Int) ≤ (c : Int) := by omega
     by_cases a2 : c ≤ 122
     · have a2' : (c : Int) ≤ 122 := by omega
       go_wp2_with fail
       all_goals
        go_roundw
        case rel => exact ⟨k + 1, by omega, by go_num, Hbel.out⟩
        case measure => simp [intOf]; omega
     have a2' : ¬ (c : Int) ≤ 122 := by omega
     have a3' : (65 : Int) ≤ (c : Int) := by omega
     have a4' : ¬ (c : Int) ≤ 90 := by omega
     have a5' : (48 : Int) ≤ (c : Int) := by omega
     have a6' : ¬ (c : Int) ≤ 57 := by omega
     have a7' : ((c : Int) == 95) = false := by rw [beq_eq_false_iff_ne]; omega
     go_wp2_with fail
     all_goals
      go_ret
      exact ⟨_, rfl, Hbel.out⟩
   have a1' : ¬ (97 : Int) ≤ (c : Int) := by omega
   by_cases a3 : 65 ≤ c
   · have a3' : (65 : Int) ≤ (c : Int) := by omega
     by_cases a4 : c ≤ 90
     · have a4' : (c : Int) ≤ 90 := by omega
       go_wp2_with fail
       all_goals
        go_roundw
        case rel => exact ⟨k + 1, by omega, by go_num, Hbel.out⟩
        case measure => simp [intOf]; omega
     have a4' : ¬ (c : Int) ≤ 90 := by omega
     have a5' : (48 : Int) ≤ (c : Int) := by omega
     have a6' : ¬ (c : Int) ≤ 57 := by omega
     by_cases a7 : c = 95
     · have a7' : ((c : Int) == 95) = true := by rw [beq_iff_eq]; omega
       clear a7
       go_wp2_with fail
       all_goals
        go_roundw
        case rel => exact ⟨k + 1, by omega, by go_num, Hbel.out⟩
        case measure => simp [intOf]; omega
     have a7' : ((c : Int) == 95) = false := by rw [beq_eq_false_iff_ne]; omega
     go_wp2_with fail
     all_goals
      go_ret
      exact ⟨_, rfl, Hbel.out⟩
   have a3' : ¬ (65 : Int) ≤ (c : Int) := by omega
   have a7' : ((c : Int) == 95) = false := by rw [beq_eq_false_iff_ne]; omega
   by_cases a5 : 48 ≤ c
   · have a5' : (48 : Int) ≤ (c : Int) := by omega
     by_cases a6 : c ≤ 57
     · have a6' : (c : Int) ≤ 57 := by omega
       go_wp2_with fail
       all_goals
        go_roundw
        case rel => exact ⟨k + 1, by omega, by go_num, Hbel.out⟩
        case measure => simp [intOf]; omega
     have a6' : ¬ (c : Int) ≤ 57 := by omega
     go_wp2_with fail
     all_goals
      go_ret
      exact ⟨_, rfl, Hbel.out⟩
   have a5' : ¬ (48 : Int) ≤ (c : Int) := by omega
   go_wp2_with fail
   all_goals
    go_ret
    exact ⟨_, rfl, Hbel.out⟩
 go_wp2_with fail
 go_ret
 exact ⟨_, rfl, Hbel.out⟩
theorem one_any (s : Sy) (w : World) : Calls Tryz.prog 71 #[.agg #[.string s.name, .int .i64 s.ar, .bool s.pr]] w (One1R s w) := by
 go_enter Tryz.func71, Tryz.ntmps71
 go_upto_region 1 with fail
 have hb1 := below_box w (.cells #[.string s.name, .int .i64 s.ar, .bool s.pr] 65)
 have hx1 := heap_alloc_new w (.cells #[.string s.name, .int .i64 s.ar, .bool s.pr] 65)
 generalize w.alloc (.cells #[.string s.name, .int .i64 s.ar, .bool s.pr] 65) = w1 at hx1 hb1 ⊢
 have k1 := fun o => cell_of_row w1 w.heap.size o _ _ _ hx1
 have hl1 := ltOf hx1
 have HB1 := Lh hb1
 have HX1 := Lh hx1
 clear hx1 hb1
 obtain ⟨ar, har⟩ : ∃ a, s.ar = a := ⟨_, rfl⟩
 rw [har] at k1 HX1
 by_cases h1 : ar < 0
 · go_wp2_with (
  go_at_call 87
  refine (named_any s.name _).mono ?_
  rintro e w2 ⟨b, rfl, hb2⟩
  have k1 := fun o => cell_of_row w2 w.heap.size o _ _ _ ((hb2.block _ hl1).trans HX1.out)
  have Hb2 := Lh hb2
  clear hb2
  cases b)
   all_goals
    go_ret
    exact ⟨_, rfl, HB1.out.trans (Hb2.out.mono (by omega)), fun e => by first | exact absurd e (by decide) | (rw [har]; omega)⟩
 by_cases h2 : 6 < ar
 · go_wp2_with (
  go_at_call 87
  refine (named_any s.name _).mono ?_
  rintro e w2 ⟨b, rfl, hb2⟩
  have k1 := fun o => cell_of_row w2 w.heap.size o _ _ _ ((hb2.block _ hl1).trans HX1.out)
  have Hb2 := Lh hb2
  clear hb2
  cases b)
   all_goals
    go_ret
    exact ⟨_, rfl, HB1.out.trans (Hb2.out.mono (by omega)), fun e => by first | exact absurd e (by decide) | (rw [har]; omega)⟩
 go_wp2_with (
  go_at_call 87
  refine (named_any s.name _).mono ?_
  rintro e w2 ⟨b, rfl, hb2⟩
  have k1 := fun o => cell_of_row w2 w.heap.size o _ _ _ ((hb2.block _ hl1).trans HX1.out)
  have Hb2 := Lh hb2
  clear hb2
  cases b)
 all_goals
  go_ret
  exact ⟨_, rfl, HB1.out.trans (Hb2.out.mono (by omega)), fun e => by first | exact absurd e (by decide) | (rw [har]; omega)⟩
def sameB (a b : ByteArray) (m n : Int) (p q : Bool) : Bool := decide (a = b ∧ m = n ∧ p = q)
theorem toList_inj1 (a b : ByteArray) : (a.toList = b.toList) = (a = b) := by
 rw [ByteArray.toList_eq, ByteArray.toList_eq]
 obtain ⟨⟨x⟩⟩ := a
 obtain ⟨⟨y⟩⟩ := b
 simp
theorem run_eq_sy1 (a b : ByteArray) (m n : Int) (p q : Bool) (w : World) :
 (binOp .eql 65 (.agg #[.string a, .int .i64 m, .bool p]) (.agg #[.string b, .int .i64 n, .bool q])).run Tryz.prog w = .ok (.bool (sameB a b m n p q)) w := by
 simp only [go_sem]
 simp [go_sem, toList_inj1]
 unfold sameB
 by_cases h1 : a = b <;> by_cases h2 : m = n <;> by_cases h3 : p = q <;> simp [h1, h2, h3]
theorem run_ne_sy1 (a b : ByteArray) (m n : Int) (p q : Bool) (w : World) :
 (binOp .neq 65 (.agg #[.string a, .int .i64 m, .bool p]) (.agg #[.string b, .int .i64 n, .bool q])).run Tryz.prog w = .ok (.bool (!sameB a b m n p q)) w := by
 simp only [go_sem]
 simp [go_sem, toList_inj1]
 unfold sameB
 by_cases h1 : a = b <;> by_cases h2 : m = n <;> by_cases h3 : p = q <;> simp [h1, h2, h3]
theorem at01_any (l : List Sy) (s : Sy) (v : Value) (B : Nat) (w : World) (hr : Rd w B (encSig l) v) (hB : B ≤ w.heap.size) :
 Calls Tryz.prog 72 #[v, .agg #[.string s.name, .int .i64 s.ar, .bool s.pr]] w (SomeInt w) := by
 obtain ⟨A, c, rfl, hc, hn, hm⟩ := Rd.row_form (show Rd w B (.sl 3 (l.map encSy)) v from hr)
 have Hr := Lh hr
 clear hr
 go_enter Tryz.func72, Tryz.ntmps72
 go_wp2_with fail
 go_loopw [5] (fun i wr => ∃ k : Nat, k ≤ l.length ∧ i = .int .i64 k ∧ Below w.heap.size w wr ∧ wr.heap[w.heap.size]? = some (Obj.cells #[.string s.name, .int .i64 s.ar, .bool s.pr] 65)) (fun i _ => l.length - (intOf i).toNat)
 case atStart => exact ⟨0, Nat.zero_le _, rfl, below_box w _, heap_alloc_new w _⟩
 obtain ⟨k, hk, rfl, hbel, hown⟩ := hrel
 have hsz : w.heap.size < wr.heap.size := (Array.getElem?_eq_some_iff.1 hown).1
 have hown2 := fun o => cell_of_row wr w.heap.size o _ _ _ hown
 have Hown := Lh hown
 clear hown
 by_cases hlt : k < l.length
 · obtain ⟨ab, off, rfl, hb, c0, c1, c2⟩ := (Hr.out.low hbel hB).sy_at hlt
   have hq := run_eq_sy1 l[k].name s.name l[k].ar s.ar l[k].pr s.pr
   cases hs : sameB l[k].name s.name l[k].ar s.ar l[k].pr s.pr with
   | true =>
     go_wp2_with fail
     go_quiet (fail)
     go_wp2_with fail
     go_ret
     exact ⟨_, rfl, drewN_low hbel _⟩
   | false =>
     go_wp2_with fail
     go_quiet (fail)
     go_wp2_with fail
     go_roundw
     case rel => exact ⟨k + 1, by omega, by go_num, drewN_low hbel _, Hown.out⟩
     case measure => simp [intOf]; omega
 go_wp2_with fail
 go_ret
 exact ⟨_, rfl, hbel⟩
theorem truth01_any (w : World) : Calls Tryz.prog 70 #[] w (fun e w' => e = .returned truthV ∧ Below w.heap.size w w') := by
 go_enter Tryz.func70, Tryz.ntmps70
 go_wp2_with fail
 have hx := heap_alloc_new w (.cells #[.string ⟨#[36, 116, 114, 117, 101]⟩, .int .i64 0, .bool true] 65)
 have k0 := cell_of_row _ w.heap.size 0 _ _ _ hx
 have k1 := cell_of_row _ w.heap.size 1 _ _ _ hx
 have k2 := cell_of_row _ w.heap.size 2 _ _ _ hx
 refine bodyPost_ret (v := truthV) (by simp [results, Tryz.results70, go_sem, truthV, k0, k1, k2]) rfl ⟨rfl, below_box w _⟩
def CheckRes (sig : List Sy) (w : World) (e : Ending) (w' : World) : Prop :=
 ∃ n : Int, e = .returned (.int .i64 n) ∧ Below w.heap.size w w' ∧ (n = 0 → (∃ h : 0 < sig.length, sig[0].ar = 0 ∧ sig[0].pr = true) ∧ ∀ j (h : j < sig.length), 1 ≤ j → 0 ≤ sig[j].ar ∧ sig[j].ar ≤ 6)
theorem check01_any (sig : List Sy) (vs : Value) (B : Nat) (w : World) (hr : Rd w B (encSig sig) vs) (hB : B ≤ w.heap.size) :
 Calls Tryz.prog 41 #[.agg #[vs]] w (CheckRes sig w) := by
 obtain ⟨As, cs, rfl, hsc, hsn, hsm⟩ := Rd.row_form (show Rd w B (.sl 3 (sig.map encSy)) vs from hr)
 have HT := Lh hr
 clear hr
 by_cases h1 : 96 < sig.length
 · have h1' : (96 : Int) < (sig.length : Int) := by omega
   go_enter Tryz.func41, Tryz.ntmps41
   go_upto_region 1 with fail
   have hb1 := below_box w (.cells #[.slice As sig.length cs] 24)
   have hx1 : Box1 w.heap.size 24 (.slice As sig.length cs) (w.alloc (.cells #[.slice As sig.length cs] 24)) := heap_alloc_new w _
   have hz1 : (w.alloc (.cells #[.slice As sig.length cs] 24)).heap.size = w.heap.size + 1 := by simp
   generalize w.alloc (.cells #[.slice As sig.length cs] 24) = w1 at hx1 hb1 hz1 ⊢
   have HX1 := Lh hx1
   have HB1 := Lh hb1
   have x10 := hx1.cell
   clear hx1 hb1
   go_wp2_with fail
   go_ret
   exact ⟨_, rfl, HB1.out, fun e => by cases e⟩
 have h1' : ¬ (96 : Int) < (sig.length : Int) := by omega
 by_cases h0 : sig.length = 0
 · have A3 := Lh (show sig = [] from List.length_eq_zero_iff.1 h0)
   have zb := 0
   have zo := 0
   have nm := ByteArray.empty
   have ar := (0 : Int)
   have pr := true
   have hq := trivial
   have g0 := trivial
   have g1 := trivial
   have q0 := trivial
   have q1 := trivial
   have q2 := trivial
   clear h0
   go_enter Tryz.func41, Tryz.ntmps41
   go_upto_region 1 with fail
   have hb1 := below_box w (.cells #[.slice As sig.length cs] 24)
   have hx1 : Box1 w.heap.size 24 (.slice As sig.length cs) (w.alloc (.cells #[.slice As sig.length cs] 24)) := heap_alloc_new w _
   have hz1 : (w.alloc (.cells #[.slice As sig.length cs] 24)).heap.size = w.heap.size + 1 := by simp
   generalize w.alloc (.cells #[.slice As sig.length cs] 24) = w1 at hx1 hb1 hz1 ⊢
   have HX1 := Lh hx1
   have HB1 := Lh hb1
   have x10 := hx1.cell
   clear hx1 hb1
   go_upto_region 3 with fail
   clear x10
   refine rg 12 (fun _ w' => Below w1.heap.size w1 w') ?_
   intro wd hwd hbd
   refine ⟨?_, fun hS => ?_⟩
   · exact hwd ▸ hbd
   refine ta 0 (.pointer (some ⟨w.heap.size, 0, none⟩)) hS fun hS => ?_
   refine tk 1 (.slice As sig.length cs) hS ?_ fun hS => ?_
   · intro w' L hn hw
     have o1 := (HX1.out.low hw).cell
     simp [execOp, go_sem, o1]
   refine ta 2 (.int .i64 (sig.length : Nat)) hS fun hS => ?_
   refine tk 3 (.bool true) hS ?_ fun hS => ?_
   · intros; simp [execOp, go_sem, A3.out]
   refine ta 4 (.bool true) hS fun hS => ?_
   refine sk 5 hS fun hS => ?_
   refine sk 6 hS fun hS => ?_
   refine sk 7 hS fun hS => ?_
   refine sk 8 hS fun hS => ?_
   refine sk 9 hS fun hS => ?_
   refine sk 10 hS fun hS => ?_
   refine ta 11 (.bool true) hS fun hS => ?_
   refine dn ?_
   have HS := Lh hS
   have hbz := hS.size
   have x10 := (HX1.out.low hS).cell
   clear hS hwd hbd
   go_wp2_with fail
   go_ret
   exact ⟨_, rfl, HB1.out.trans (HS.out.mono (by omega)), fun e => by cases e⟩
 have a3 : ¬ sig = [] := fun e => h0 (by rw [e]; rfl)
 have g0 : 0 < sig.length := by omega
 have g1 : ¬ ((sig.length : Int) ≤ 0) := by omega
 obtain ⟨zb, zo, rfl, hzb, s0, s1, s2⟩ := HT.out.sy_at g0
 obtain ⟨nm, hnm⟩ : ∃ x, sig[0].name = x := ⟨_, rfl⟩
 obtain ⟨ar, har⟩ : ∃ x, sig[0].ar = x := ⟨_, rfl⟩
 obtain ⟨pr, hpr⟩ : ∃ x, sig[0].pr = x := ⟨_, rfl⟩
 rw [hnm] at s0
 rw [har] at s1
 rw [hpr] at s2
 simp only [Nat.zero_mul, Nat.add_zero] at s0 s1 s2
 have S0 := Lh s0
 have S1 := Lh s1
 have S2 := Lh s2
 clear s0 s1 s2
 have hq0 := run_ne_sy1 nm ⟨#[36, 116, 114, 117, 101]⟩ ar 0 pr true
 cases hsb : sameB nm ⟨#[36, 116, 114, 117, 101]⟩ ar 0 pr true with
 | true =>
   have hfst : ∃ h : 0 < sig.length, sig[0].ar = 0 ∧ sig[0].pr = true := by
    unfold sameB at hsb
    rw [decide_eq_true_eq] at hsb
    exact ⟨g0, by rw [har]; exact hsb.2.1, by rw [hpr]; exact hsb.2.2⟩
   have Hfst := Lh hfst
   rw [hsb] at hq0
   have hq := hq0
   clear hfst hsb hnm har hpr hq0
   go_enter Tryz.func41, Tryz.ntmps41
   go_upto_region 1 with fail
   have hb1 := below_box w (.cells #[.slice (some ⟨zb, zo, none⟩) sig.length cs] 24)
   have hx1 : Box1 w.heap.size 24 (.slice (some ⟨zb, zo, none⟩) sig.length cs) (w.alloc (.cells #[.slice (some ⟨zb, zo, none⟩) sig.length cs] 24)) := heap_alloc_new w _
   have hz1 : (w.alloc (.cells #[.slice (some ⟨zb, zo, none⟩) sig.length cs] 24)).heap.size = w.heap.size + 1 := by simp
   generalize w.alloc (.cells #[.slice (some ⟨zb, zo, none⟩) sig.length cs] 24) = w1 at hx1 hb1 hz1 ⊢
   have HX1 := Lh hx1
   have HB1 := Lh hb1
   have x10 := hx1.cell
   clear hx1 hb1
   go_upto_region 3 with fail
   clear x10
   refine rg 12 (fun _ w' => Below w1.heap.size w1 w') ?_
   intro wd hwd hbd
   refine ⟨?_, fun hS => ?_⟩
   · exact hwd ▸ hbd
   refine ta 0 (.pointer (some ⟨w.heap.size, 0, none⟩)) hS fun hS => ?_
   refine tk 1 (.slice (some ⟨zb, zo, none⟩) sig.length cs) hS ?_ fun hS => ?_
   · intro w' L hn hw
     have o1 := (HX1.out.low hw).cell
     simp [execOp, go_sem, o1]
   refine ta 2 (.int .i64 (sig.length : Nat)) hS fun hS => ?_
   refine tk 3 (.bool false) hS ?_ fun hS => ?_
   · intros; simp [execOp, go_sem, a3]
   refine ta 4 (.bool false) hS fun hS => ?_
   refine ta 5 (.pointer (some ⟨w.heap.size, 0, none⟩)) hS fun hS => ?_
   refine tk 6 (.slice (some ⟨zb, zo, none⟩) sig.length cs) hS ?_ fun hS => ?_
   · intro w' L hn hw
     have o1 := (HX1.out.low hw).cell
     simp [execOp, go_sem, o1]
   refine tk 7 (.pointer (some ⟨zb, zo, none⟩)) hS ?_ fun hS => ?_
   · intros; simp [execOp, go_sem, g0, g1]
   refine tk 8 (.agg #[.string nm, .int .i64 ar, .bool pr]) hS ?_ fun hS => ?_
   · intro w' L hn hw
     (have q0 := (HB1.out.trans (hw.mono (by omega))).cell (p := ⟨zb, zo, none⟩) (show zb < w.heap.size by omega) |>.trans S0.out; have q1 := (HB1.out.trans (hw.mono (by omega))).cell (p := ⟨zb, zo + 1, none⟩) (show zb < w.heap.size by omega) |>.trans S1.out; have q2 := (HB1.out.trans (hw.mono (by omega))).cell (p := ⟨zb, zo + 2, none⟩) (show zb < w.heap.size by omega) |>.trans S2.out)
     simp [execOp, go_sem, q0, q1, q2]
   refine so 9 ?_
   have hbd4 : Below w1.heap.size w1 wd := hwd ▸ hbd
   refine wp_enter ?_ (truth01_any wd) ?_
   · simp [execOp, resolve, invoke, go_sem]
   rintro e w6 ⟨rfl, hb6⟩
   refine ⟨_, rfl, ?_⟩
   refine gS ?_ fun hS => ?_
   · exact hS.trans (hb6.mono hS.size)
   refine tk 10 (.bool false) hS ?_ fun hS => ?_
   · intros; simp [execOp, go_sem, truthV, hq]
   refine ta 11 (.bool false) hS fun hS => ?_
   refine dn ?_
   have HS := Lh hS
   have hbz := hS.size
   have x10 := (HX1.out.low hS).cell
   clear hS hwd hbd
   go_wp2_with fail
   go_loopw [3] (fun i wr => ∃ k : Nat, 1 ≤ k ∧ k ≤ sig.length ∧ i = .int .i64 k ∧ Below w1.heap.size w1 wr ∧ ∀ j (h : j < sig.length), 1 ≤ j → j < k → 0 ≤ sig[j].ar ∧ sig[j].ar ≤ 6) (fun i _ => sig.length - (intOf i).toNat)
   case atStart => exact ⟨1, Nat.le_refl _, by omega, rfl, HS.out, fun j _ h1 h2 => by omega⟩
   clear HS x10
   obtain ⟨k, hk1, hk, rfl, hbel, hal⟩ := hrel
   have Hal := Lh hal
   clear hal
   have hzr := hbel.size
   have x10 := (HX1.out.low hbel).cell
   have hbr : Below w.heap.size w wr := HB1.out.trans (hbel.mono (by omega))
   have Hbr := Lh hbr
   have Hbel := Lh hbel
   clear hbel hbr
   by_cases hlt : k < sig.length
   · obtain ⟨zb', zo', hss, hzb', k0, k1, k2⟩ := (HT.out.low Hbr.out hB).sy_at hlt
     obtain ⟨rfl, rfl⟩ : zb = zb' ∧ zo = zo' := by cases hss; exact ⟨rfl, rfl⟩
     clear hss
     have hone := one_any sig[k] wr
     have hcl := fun (w' : World) (hb : Below wr.heap.size wr w') => at01_any sig sig[k] (.slice (some ⟨zb, zo, none⟩) sig.length cs) B w' (HT.out.low (Hbr.out.trans (hb.mono Hbr.out.size)) hB) (by have := hb.size; omega)
     obtain ⟨nm2, hnm⟩ : ∃ x, sig[k].name = x := ⟨_, rfl⟩
     obtain ⟨ar2, har⟩ : ∃ x, sig[k].ar = x := ⟨_, rfl⟩
     obtain ⟨pr2, hpr⟩ : ∃ x, sig[k].pr = x := ⟨_, rfl⟩
     rw [hnm, har, hpr] at hone
     simp only [hnm, har, hpr] at hcl k0 k1 k2
     have Hone := Lh hone
     have K0 := Lh k0
     have K1 := Lh k1
     have K2 := Lh k2
     have hkk : ¬ ((sig.length : Int) ≤ (k : Int)) := by omega
     have hklt : (k : Int) < (sig.length : Int) := by omega
     clear hone hnm har hpr
     have Hcl0 := Lh hcl
     clear hcl
     go_upto_region 9 with (go_at_call 71
                            refine Hone.out.mono ?_
                            rintro e w2 ⟨nn, rfl, hb2, hon⟩
                            have Hon := Lh hon
                            clear hon
                            have Hb2 := Lh hb2
                            clear hb2)
     clear k0 k1 k2 x10
     have hz2 := Hb2.out.size
     have hx2 := (HX1.out.low Hbel.out).low Hb2.out
     have x10 := hx2.cell
     have HX2 := Lh hx2
     have Hcl := Lh (fun (w' : World) (hb : Below w2.heap.size w2 w') => Hcl0.out w' (Hb2.out.trans (hb.mono hz2)))
     clear hx2 Hcl0
     by_cases hn0 : nn = 0
     · have Hon2 := Lh (Hon.out hn0)
       go_upto_region 11 with fail
       refine rg 10 (fun _ w' => Below w2.heap.size w2 w') ?_
       intro wd hwd hbd
       refine ⟨?_, fun hS => ?_⟩
       · exact hwd ▸ hbd
       refine ta 0 (.pointer (some ⟨w.heap.size, 0, none⟩)) hS fun hS => ?_
       refine tk 1 (.slice (some ⟨zb, zo, none⟩) sig.length cs) hS ?_ fun hS => ?_
       · intro w' L hn hw
         have o1 := (HX2.out.low hw).cell
         simp [execOp, go_sem, o1]
       refine ta 2 (.pointer (some ⟨w.heap.size, 0, none⟩)) hS fun hS => ?_
       refine tk 3 (.slice (some ⟨zb, zo, none⟩) sig.length cs) hS ?_ fun hS => ?_
       · intro w' L hn hw
         have o1 := (HX2.out.low hw).cell
         simp [execOp, go_sem, o1]
       refine ta 4 (.int .i64 (k : Nat)) hS fun hS => ?_
       refine tk 5 (.pointer (some ⟨zb, zo + k * 3, none⟩)) hS ?_ fun hS => ?_
       · intros; simp [execOp, go_sem, hlt, hkk]
       refine tk 6 (.agg #[.string nm2, .int .i64 ar2, .bool pr2]) hS ?_ fun hS => ?_
       · intro w' L hn hw
         have q0 := (hw.cell (p := ⟨zb, zo + k * 3, none⟩) (show zb < w2.heap.size by omega)).trans ((Hb2.out.cell (p := ⟨zb, zo + k * 3, none⟩) (show zb < wr.heap.size by omega)).trans K0.out)
         have q1 := (hw.cell (p := ⟨zb, zo + k * 3 + 1, none⟩) (show zb < w2.heap.size by omega)).trans ((Hb2.out.cell (p := ⟨zb, zo + k * 3 + 1, none⟩) (show zb < wr.heap.size by omega)).trans K1.out)
         have q2 := (hw.cell (p := ⟨zb, zo + k * 3 + 2, none⟩) (show zb < w2.heap.size by omega)).trans ((Hb2.out.cell (p := ⟨zb, zo + k * 3 + 2, none⟩) (show zb < wr.heap.size by omega)).trans K2.out)
         simp [execOp, go_sem, q0, q1, q2]
       refine ta 8 (.int .i64 (k : Nat)) hS fun hS => ?_
       refine so 7 ?_
       have hbd4 : Below w2.heap.size w2 wd := hwd ▸ hbd
       refine wp_enter ?_ (Hcl.out wd hbd4) ?_
       · simp [execOp, resolve, invoke, go_sem]
       rintro e w6 ⟨q, rfl, hb6⟩
       refine ⟨_, rfl, ?_⟩
       refine gS ?_ fun hS => ?_
       · exact hS.trans (hb6.mono hS.size)
       refine ta 9 (.bool (decide (q < (k : Nat)))) hS fun hS => ?_
       refine dn ?_
       have HS := Lh hS
       have hbz := hS.size
       clear hS hwd hbd hbd4 hb6
       by_cases hq2 : q < (k : Int)
       · go_wp2_with fail
         go_ret
         exact ⟨_, rfl, Hbr.out.trans ((Hb2.out.trans (HS.out.mono hz2)).mono (by omega)), fun e => by cases e⟩
       go_wp2_with fail
       go_roundw
       case rel =>
        refine ⟨k + 1, by omega, by omega, by go_num, Hbel.out.trans ((Hb2.out.trans (HS.out.mono hz2)).mono (by omega)), fun j hj h1 hjk => ?_⟩
        by_cases hjk2 : j = k
        · subst hjk2; exact Hon2.out
        exact Hal.out j hj h1 (by omega)
       case measure => simp [intOf]; omega
     go_wp2_with fail
     go_ret
     exact ⟨_, rfl, Hbr.out.trans (Hb2.out.mono (by omega)), fun e => absurd e hn0⟩
   go_wp2_with fail
   go_ret
   exact ⟨_, rfl, Hbr.out, fun _ => ⟨Hfst.out, fun j hj h1 => Hal.out j hj h1 (by omega)⟩⟩
 | false =>
   rw [hsb] at hq0
   have hq := hq0
   clear hsb hnm har hpr hq0
   go_enter Tryz.func41, Tryz.ntmps41
   go_upto_region 1 with fail
   have hb1 := below_box w (.cells #[.slice (some ⟨zb, zo, none⟩) sig.length cs] 24)
   have hx1 : Box1 w.heap.size 24 (.slice (some ⟨zb, zo, none⟩) sig.length cs) (w.alloc (.cells #[.slice (some ⟨zb, zo, none⟩) sig.length cs] 24)) := heap_alloc_new w _
   have hz1 : (w.alloc (.cells #[.slice (some ⟨zb, zo, none⟩) sig.length cs] 24)).heap.size = w.heap.size + 1 := by simp
   generalize w.alloc (.cells #[.slice (some ⟨zb, zo, none⟩) sig.length cs] 24) = w1 at hx1 hb1 hz1 ⊢
   have HX1 := Lh hx1
   have HB1 := Lh hb1
   have x10 := hx1.cell
   clear hx1 hb1
   go_upto_region 3 with fail
   clear x10
   refine rg 12 (fun _ w' => Below w1.heap.size w1 w') ?_
   intro wd hwd hbd
   refine ⟨?_, fun hS => ?_⟩
   · exact hwd ▸ hbd
   refine ta 0 (.pointer (some ⟨w.heap.size, 0, none⟩)) hS fun hS => ?_
   refine tk 1 (.slice (some ⟨zb, zo, none⟩) sig.length cs) hS ?_ fun hS => ?_
   · intro w' L hn hw
     have o1 := (HX1.out.low hw).cell
     simp [execOp, go_sem, o1]
   refine ta 2 (.int .i64 (sig.length : Nat)) hS fun hS => ?_
   refine tk 3 (.bool false) hS ?_ fun hS => ?_
   · intros; simp [execOp, go_sem, a3]
   refine ta 4 (.bool false) hS fun hS => ?_
   refine ta 5 (.pointer (some ⟨w.heap.size, 0, none⟩)) hS fun hS => ?_
   refine tk 6 (.slice (some ⟨zb, zo, none⟩) sig.length cs) hS ?_ fun hS => ?_
   · intro w' L hn hw
     have o1 := (HX1.out.low hw).cell
     simp [execOp, go_sem, o1]
   refine tk 7 (.pointer (some ⟨zb, zo, none⟩)) hS ?_ fun hS => ?_
   · intros; simp [execOp, go_sem, g0, g1]
   refine tk 8 (.agg #[.string nm, .int .i64 ar, .bool pr]) hS ?_ fun hS => ?_
   · intro w' L hn hw
     (have q0 := (HB1.out.trans (hw.mono (by omega))).cell (p := ⟨zb, zo, none⟩) (show zb < w.heap.size by omega) |>.trans S0.out; have q1 := (HB1.out.trans (hw.mono (by omega))).cell (p := ⟨zb, zo + 1, none⟩) (show zb < w.heap.size by omega) |>.trans S1.out; have q2 := (HB1.out.trans (hw.mono (by omega))).cell (p := ⟨zb, zo + 2, none⟩) (show zb < w.heap.size by omega) |>.trans S2.out)
     simp [execOp, go_sem, q0, q1, q2]
   refine so 9 ?_
   have hbd4 : Below w1.heap.size w1 wd := hwd ▸ hbd
   refine wp_enter ?_ (truth01_any wd) ?_
   · simp [execOp, resolve, invoke, go_sem]
   rintro e w6 ⟨rfl, hb6⟩
   refine ⟨_, rfl, ?_⟩
   refine gS ?_ fun hS => ?_
   · exact hS.trans (hb6.mono hS.size)
   refine tk 10 (.bool true) hS ?_ fun hS => ?_
   · intros; simp [execOp, go_sem, truthV, hq]
   refine ta 11 (.bool true) hS fun hS => ?_
   refine dn ?_
   have HS := Lh hS
   have hbz := hS.size
   have x10 := (HX1.out.low hS).cell
   clear hS hwd hbd
   go_wp2_with fail
   go_ret
   exact ⟨_, rfl, HB1.out.trans (HS.out.mono (by omega)), fun e => by cases e⟩
def small2B (most : Int) (t : Tm) : Bool := decide (sizeT t ≤ 300) && decide (depthT t ≤ 30) && lowB most t
theorem small2_any (f : Int) (xs : List Tm) (v2 : Value) (most : Int) (B : Nat) (w : World) (hz : sizeTs xs ≤ 2000000) (hm0 : 0 ≤ most) (hm1 : most ≤ 1000000) (hr : Rd w B (.sl 2 (encTms xs)) v2) (hB : B ≤ w.heap.size) :
 Calls Tryz.prog 42 #[.agg #[.int .i64 f, v2], .int .i64 most] w (BoolRes (small2B most (.mk f xs)) w) := by
 obtain ⟨A, c, rfl, hc, hn, hm⟩ := hr.tm_form
 have H3 := Lh hr
 have hs : small2B most (.mk f xs) = (decide (((sizeTs xs + 1 : Nat) : Int) ≤ 300) && decide (((depthTs xs + 1 : Nat) : Int) ≤ 30) && lowB most (.mk f xs)) := by
  unfold small2B
  rw [sizeT, depthT]
  congr 2 <;> exact decide_eq_decide.2 (by omega)
 have hdp := depthTs_le xs
 rw [hs]
 clear hr hs
 by_cases h1 : ((sizeTs xs + 1 : Nat) : Int) ≤ 300
 · rw [decide_eq_true h1, Bool.true_and]
   by_cases h2 : ((depthTs xs + 1 : Nat) : Int) ≤ 30
   · rw [decide_eq_true h2, Bool.true_and]
     have h1' : (sizeTs xs : Int) + 1 ≤ 300 := by omega
     have h2' : (depthTs xs : Int) + 1 ≤ 30 := by omega
     go_enter Tryz.func42, Tryz.ntmps42
     go_upto_region 1 with fail
     have hx1 : Box2 w.heap.size 32 (.int .i64 f) (.slice A xs.length c) (w.alloc (.cells #[.int .i64 f, .slice A xs.length c] 32)) := heap_alloc_new w _
     have hb1 := below_box w (.cells #[.int .i64 f, .slice A xs.length c] 32)
     generalize w.alloc (.cells #[.int .i64 f, .slice A xs.length c] 32) = w1 at hx1 hb1 ⊢
     have hz1 := hb1.size
     have HX1 := Lh hx1
     have HB1 := Lh hb1
     obtain ⟨x0, x1, -⟩ := hx1.cells
     clear hx1 hb1
     go_wp2_with (
      first
      | (
       skip
       go_at_call 20
       refine (size2_any (sizeTs xs + 1) f xs _ B w1 (by omega) (by omega) (H3.out.low HB1.out hB) (by omega)).mono ?_
       rintro e w2 ⟨rfl, hb2⟩
       obtain ⟨x0, x1, -⟩ := (HX1.out.low hb2).cells
       have Hb2 := Lh hb2
       clear hb2
        )
      | (
       skip
       go_at_call 73
       refine (depth2_any (sizeTs xs + 1) f xs _ B w2 (by omega) (by omega) (H3.out.low (HB1.out.trans (Hb2.out.mono hz1)) hB) (by have := Hb2.out.size; omega)).mono ?_
       rintro e w3 ⟨rfl, hb3⟩
       obtain ⟨x0, x1, -⟩ := ((HX1.out.low Hb2.out).low hb3).cells
       have Hb3 := Lh hb3
       clear hb3
        )
      | (
       go_at_call 74
       refine (low_any (sizeTs xs + 1) f xs _ B w3 most (by omega) hm0 hm1 (H3.out.low (HB1.out.trans ((Hb2.out.trans (Hb3.out.mono Hb2.out.size)).mono hz1)) hB) (by have := Hb2.out.size; have := Hb3.out.size; omega)).mono ?_
       rintro e w4 ⟨rfl, hb4⟩
       have Hb4 := Lh hb4
       clear hb4))
     go_ret
     have := Hb2.out.size
     exact ⟨rfl, HB1.out.trans ((Hb2.out.trans ((Hb3.out.trans (Hb4.out.mono Hb3.out.size)).mono (by omega))).mono hz1)⟩
   rw [decide_eq_false h2, Bool.false_and]
   have h1' : (sizeTs xs : Int) + 1 ≤ 300 := by omega
   have h2' : ¬ ((depthTs xs : Int) + 1 ≤ 30) := by omega
   go_enter Tryz.func42, Tryz.ntmps42
   go_upto_region 1 with fail
   have hx1 : Box2 w.heap.size 32 (.int .i64 f) (.slice A xs.length c) (w.alloc (.cells #[.int .i64 f, .slice A xs.length c] 32)) := heap_alloc_new w _
   have hb1 := below_box w (.cells #[.int .i64 f, .slice A xs.length c] 32)
   generalize w.alloc (.cells #[.int .i64 f, .slice A xs.length c] 32) = w1 at hx1 hb1 ⊢
   have hz1 := hb1.size
   have HX1 := Lh hx1
   have HB1 := Lh hb1
   obtain ⟨x0, x1, -⟩ := hx1.cells
   clear hx1 hb1
   go_wp2_with (
    first
    | (
     skip
     go_at_call 20
     refine (size2_any (sizeTs xs + 1) f xs _ B w1 (by omega) (by omega) (H3.out.low HB1.out hB) (by omega)).mono ?_
     rintro e w2 ⟨rfl, hb2⟩
     obtain ⟨x0, x1, -⟩ := (HX1.out.low hb2).cells
     have Hb2 := Lh hb2
     clear hb2
      )
    | (
     skip
     go_at_call 73
     refine (depth2_any (sizeTs xs + 1) f xs _ B w2 (by omega) (by omega) (H3.out.low (HB1.out.trans (Hb2.out.mono hz1)) hB) (by have := Hb2.out.size; omega)).mono ?_
     rintro e w3 ⟨rfl, hb3⟩
     obtain ⟨x0, x1, -⟩ := ((HX1.out.low Hb2.out).low hb3).cells
     have Hb3 := Lh hb3
     clear hb3
      ))
   go_ret
   exact ⟨rfl, HB1.out.trans ((Hb2.out.trans (Hb3.out.mono Hb2.out.size)).mono hz1)⟩
 rw [decide_eq_false h1, Bool.false_and, Bool.false_and]
 have h1' : ¬ ((sizeTs xs : Int) + 1 ≤ 300) := by omega
 go_enter Tryz.func42, Tryz.ntmps42
 go_upto_region 1 with fail
 have hx1 : Box2 w.heap.size 32 (.int .i64 f) (.slice A xs.length c) (w.alloc (.cells #[.int .i64 f, .slice A xs.length c] 32)) := heap_alloc_new w _
 have hb1 := below_box w (.cells #[.int .i64 f, .slice A xs.length c] 32)
 generalize w.alloc (.cells #[.int .i64 f, .slice A xs.length c] 32) = w1 at hx1 hb1 ⊢
 have hz1 := hb1.size
 have HX1 := Lh hx1
 have HB1 := Lh hb1
 obtain ⟨x0, x1, -⟩ := hx1.cells
 clear hx1 hb1
 go_wp2_with (
  skip
  go_at_call 20
  refine (size2_any (sizeTs xs + 1) f xs _ B w1 (by omega) (by omega) (H3.out.low HB1.out hB) (by omega)).mono ?_
  rintro e w2 ⟨rfl, hb2⟩
  obtain ⟨x0, x1, -⟩ := (HX1.out.low hb2).cells
  have Hb2 := Lh hb2
  clear hb2
             )
 go_ret
 exact ⟨rfl, HB1.out.trans (Hb2.out.mono hz1)⟩
mutual
def ovB (sig : List Sy) (top : Bool) : Tm → Bool
 | .mk f xs => decide (f < 0) || ((match sig[f.toNat]? with | none => false | some s => decide (s.ar = (xs.length : Int)) && (!s.pr || top)) && ovBs sig xs)
def ovBs (sig : List Sy) : List Tm → Bool
 | [] => true
 | x :: xs => ovB sig false x && ovBs sig xs
end
theorem ovBs_all (sig : List Sy) : ∀ xs : List Tm, ovBs sig xs = xs.all (ovB sig false)
 | [] => by rw [ovBs]; rfl
 | x :: xs => by rw [ovBs, List.all_cons, ovBs_all sig xs]
theorem over02_any (sig : List Sy) (A : Option Addr) (cs0 : Nat) (D : Nat) : ∀ (f : Int) (xs : List Tm) (v2 : Value) (top : Bool) (B : Nat) (w : World), sizeTs xs < D → Rd w B (encSig sig) (.slice A sig.length cs0) → Rd w B (.sl 2 (encTms xs)) v2 → B ≤ w.heap.size → sig.length ≤ 1000 →
 Calls Tryz.prog 43 #[.agg #[.slice A sig.length cs0], .agg #[.int .i64 f, v2], .bool top] w (BoolRes (ovB sig top (.mk f xs)) w) := by
 induction D with
 | zero => intro f xs v2 top B w h; omega
 | succ D ih =>
 intro f xs v2 top B w hD hs hr hB hlen
 obtain ⟨Ax, c, rfl, -, hn, -⟩ := hr.tm_form
 have HS := Lh hs
 have HR := Lh hr
 have Hih := Lh ih
 obtain ⟨res, hres⟩ : ∃ b, ovB sig top (.mk f xs) = b := ⟨_, rfl⟩
 rw [hres]
 rw [ovB] at hres
 clear hs hr ih
 go_enter Tryz.func43, Tryz.ntmps43
 go_upto_region 1 with fail
 obtain ⟨hx1, hx2, hB2, hz2⟩ := boxes2 w (.cells #[.slice A sig.length cs0] 24) (.cells #[.int .i64 f, .slice Ax xs.length c] 32)
 generalize (w.alloc (.cells #[.slice A sig.length cs0] 24)).alloc (.cells #[.int .i64 f, .slice Ax xs.length c] 32) = w2 at hx1 hx2 hB2 hz2 ⊢
 have hx1 : Box1 w.heap.size 24 (.slice A sig.length cs0) w2 := hx1
 have hx2 : Box2 (w.heap.size + 1) 32 (.int .i64 f) (.slice Ax xs.length c) w2 := hx2
 have HX1 := Lh hx1
 have HX2 := Lh hx2
 have HB2 := Lh hB2
 have hz2l : w.heap.size + 1 < w2.heap.size := by omega
 have q1 := hx1.cell
 obtain ⟨p0, p1, -⟩ := hx2.cells
 clear hx1 hx2 hB2 hz2
 by_cases hf : f < 0
 · have hr : res = true := by rw [← hres, decide_eq_true hf]; rfl
   have Hr := Lh hr
   clear hr hres
   go_wp2_with fail
   go_ret
   exact ⟨by rw [Hr.out]; rfl, HB2.out⟩
 obtain ⟨fn, rfl⟩ : ∃ fn : Nat, f = ((fn : Nat) : Int) := ⟨f.toNat, by omega⟩
 rw [decide_eq_false hf, Bool.false_or, Int.toNat_natCast] at hres
 by_cases hfN : fn < sig.length
 rotate_left
 · rw [List.getElem?_eq_none (by omega)] at hres
   have hr : res = false := by rw [← hres]; rfl
   have Hr := Lh hr
   have hfN2 : (sig.length : Int) ≤ (fn : Int) := by omega
   clear hr hres
   go_wp2_with fail
   go_ret
   exact ⟨by rw [Hr.out]; rfl, HB2.out⟩
 have hfN2 : ¬ (sig.length : Int) ≤ (fn : Int) := by omega
 rw [List.getElem?_eq_getElem hfN] at hres
 dsimp only at hres
 obtain ⟨ab, off, hA, hab, s0, s1, s2⟩ := (HS.out.low HB2.out hB).sy_at hfN
 subst hA
 generalize sig[fn].name = nm at s0
 generalize sig[fn].ar = ar at s1 hres
 generalize sig[fn].pr = pd at s2 hres
 have Hres := Lh hres
 clear hres
 go_upto_region 6 with fail
 have hx3 := heap_alloc_new w2 (.cells #[.string nm, .int .i64 ar, .bool pd] 65)
 have hx3 : BoxN w2.heap.size 65 #[.string nm, .int .i64 ar, .bool pd] _ := hx3
 have hB3 := below_box w2 (.cells #[.string nm, .int .i64 ar, .bool pd] 65)
 have hz3 : w2.heap.size < (w2.alloc (.cells #[.string nm, .int .i64 ar, .bool pd] 65)).heap.size := by simp
 generalize w2.alloc (.cells #[.string nm, .int .i64 ar, .bool pd] 65) = w3 at hx3 hB3 hz3 ⊢
 have t1 : w3.cell? ⟨w2.heap.size, 1, none⟩ = some (.int .i64 ar) := hx3.cell 1
 have t2 : w3.cell? ⟨w2.heap.size, 2, none⟩ = some (.bool pd) := hx3.cell 2
 have HX1 := Lh (HX1.out.low hB3)
 have HX2 := Lh (HX2.out.low hB3)
 have HB3 := Lh (HB2.out.trans (hB3.mono (by omega)))
 obtain ⟨p0, p1, -⟩ := HX2.out.cells
 clear hx3 hB3 s0 s1 s2 q1
 by_cases har : ar = (xs.length : Int)
 rotate_left
 · have hnb : (ar != (xs.length : Int)) = true := by rw [bne_iff_ne]; exact har
   have hr : res = false := by rw [← Hres.out, decide_eq_false har]; simp
   have Hr := Lh hr
   clear hr har
   go_wp2_with fail
   go_ret
   exact ⟨by rw [Hr.out]; rfl, HB3.out⟩
 have hnb : (ar != (xs.length : Int)) = false := by rw [bne_eq_false_iff_eq]; exact har
 have hres := Hres.out
 rw [decide_eq_true har, Bool.true_and] at hres
 clear har Hres
 by_cases hpd : pd = true ∧ top = false
 · have hr : res = false := by rw [← hres, hpd.1, hpd.2]; rfl
   rw [hpd.1] at t2
   have Htop := Lh hpd.2
   have Hr := Lh hr
   clear hr hres hpd
   obtain rfl : top = false := Htop.out
   clear Htop
   go_wp2_with fail
   go_ret
   exact ⟨by rw [Hr.out]; rfl, HB3.out⟩
 have hpt : (!pd || top) = true := by cases pd <;> cases top <;> simp_all
 rw [hpt, Bool.true_and] at hres
 have Hres := Lh hres
 clear hres
 have hloop : pd = false ∨ (pd = true ∧ top = true) := by cases pd <;> cases top <;> simp_all
 clear hpd hpt
 rcases hloop with h1 | ⟨h1, h2⟩
 · rw [h1] at t2
   clear h1
   go_wp2_with fail
   clear t1 t2 p0 p1
   go_loopw [8] (fun i wr => ∃ k : Nat, k ≤ xs.length ∧ i = .int .i64 k ∧ (xs.take k).all (ovB sig false) = true ∧ Below w3.heap.size w3 wr) (fun i _ => xs.length - (intOf i).toNat)
   case atStart => exact ⟨0, Nat.zero_le _, rfl, rfl, Below.refl _ _⟩
   obtain ⟨k, hk, rfl, hal, hbel⟩ := hrel
   have hzr := hbel.size
   have Hal := Lh hal
   have Hbel := Lh hbel
   have HBr := Lh (HB3.out.trans (hbel.mono (by omega)))
   obtain ⟨p0, p1, -⟩ := (HX2.out.low hbel).cells
   clear hal hbel
   by_cases hlt : k < xs.length
   · have hlt2 : ¬ ((xs.length : Int) ≤ (k : Int)) := by omega
     obtain ⟨sb, sq, f1, us, A2, c2, hA2, hxk, hsb, k0, k1, hr1⟩ := (HR.out.low HBr.out hB).tm_at hlt
     subst hA2
     have hsz := sizeTs_mem hlt
     rw [hxk] at hsz
     have hs1 : sizeT (.mk f1 us) = 1 + sizeTs us := by rw [sizeT]; omega
     have hcl := fun (w' : World) (hb : Below wr.heap.size wr w') => Hih.out f1 us (.slice A2 us.length c2) false B w' (by omega) (HS.out.low (HBr.out.trans (hb.mono (by omega))) hB) (hr1.low hb (by omega)) (by have := hb.size; omega) hlen
     obtain ⟨bk, hbk⟩ : ∃ b, ovB sig false (.mk f1 us) = b := ⟨_, rfl⟩
     rw [hbk] at hcl
     have hak : ovB sig false xs[k] = bk := by rw [hxk]; exact hbk
     have Hak := Lh hak
     have Hcl := Lh hcl
     have K0 := Lh k0
     have K1 := Lh k1
     have HX1r := Lh (HX1.out.low Hbel.out)
     have HX2r := Lh (HX2.out.low Hbel.out)
     clear hcl hbk hak hxk hr1 hsz hs1 k0 k1
     go_upto_region 11 with fail
     clear p0 p1
     refine bu 8 (fun w' => Below wr.heap.size wr w') (fun wd hwd hbd => ?_) ?_
     · exact hwd ▸ hbd
     refine ru 0 (.agg #[.slice (some ⟨ab, off, none⟩) sig.length cs0]) (fun w' hw => ?_) ?_
     · have o0 := (HX1r.out.low hw).cell
       simp [execOp, go_sem, o0]
     refine pu 1 (.pointer (some ⟨w.heap.size + 1, 1, none⟩)) ?_
     refine ru 2 (.slice (some ⟨sb, sq, none⟩) xs.length c) (fun w' hw => ?_) ?_
     · have o2 := (HX2r.out.low hw).cells.2.1
       simp [execOp, go_sem, o2]
     refine pu 3 (.int .i64 (k : Nat)) ?_
     refine ru 4 (.pointer (some ⟨sb, sq + k * 2, none⟩)) (fun w' hw => ?_) ?_
     · simp [execOp, go_sem, hlt, hlt2]
     refine ru 5 (.agg #[.int .i64 f1, .slice A2 us.length c2]) (fun w' hw => ?_) ?_
     · have o5 := (hw.cell (p := ⟨sb, sq + k * 2, none⟩) (show sb < wr.heap.size by omega)).trans K0.out
       have o6 := (hw.cell (p := ⟨sb, sq + k * 2 + 1, none⟩) (show sb < wr.heap.size by omega)).trans K1.out
       simp [execOp, go_sem, o5, o6]
     refine cu 6 (.bool bk) (fun w' hw => (Hcl.out w' hw).mono ?_) ?_
     · rintro e w2 ⟨rfl, hb⟩
       exact ⟨rfl, hw.trans (hb.mono hw.size)⟩
     refine pu 7 (.bool (!bk)) ?_
     refine du (fun wz hS => ?_)
     have HS5 := Lh hS
     have hbz := hS.size
     obtain ⟨p0, p1, -⟩ := (HX2r.out.low hS).cells
     clear hS
     cases bk with
     | true =>
       have hnew : (xs.take (k + 1)).all (ovB sig false) = true := by
        rw [List.take_succ_eq_append_getElem hlt, List.all_append, Hal.out]
        simp [Hak.out]
       have Hnew := Lh hnew
       clear hnew
       go_wp2_with fail
       go_roundw
       case rel => exact ⟨k + 1, by omega, by go_num, Hnew.out, Hbel.out.trans (HS5.out.mono (by omega))⟩
       case measure => simp [intOf]; omega
     | false =>
       have hr : res = false := by
        rw [← Hres.out, ovBs_all]
        exact List.all_eq_false.2 ⟨xs[k], List.getElem_mem hlt, by rw [Hak.out]; decide⟩
       have Hr := Lh hr
       clear hr
       go_wp2_with fail
       go_ret
       exact ⟨by rw [Hr.out]; rfl, HBr.out.trans (HS5.out.mono (by omega))⟩
   have hr : res = true := by
    rw [← Hres.out, ovBs_all]
    have h := Hal.out
    rw [List.take_of_length_le (by omega)] at h
    exact h
   have Hr := Lh hr
   clear hr
   go_wp2_with fail
   go_ret
   exact ⟨by rw [Hr.out]; rfl, HBr.out⟩
 rw [h1] at t2
 obtain rfl : top = true := h2
 clear h1
 go_wp2_with fail
 clear t1 t2 p0 p1
 go_loopw [8] (fun i wr => ∃ k : Nat, k ≤ xs.length ∧ i = .int .i64 k ∧ (xs.take k).all (ovB sig false) = true ∧ Below w3.heap.size w3 wr) (fun i _ => xs.length - (intOf i).toNat)
 case atStart => exact ⟨0, Nat.zero_le _, rfl, rfl, Below.refl _ _⟩
 obtain ⟨k, hk, rfl, hal, hbel⟩ := hrel
 have hzr := hbel.size
 have Hal := Lh hal
 have Hbel := Lh hbel
 have HBr := Lh (HB3.out.trans (hbel.mono (by omega)))
 obtain ⟨p0, p1, -⟩ := (HX2.out.low hbel).cells
 clear hal hbel
 by_cases hlt : k < xs.length
 · have hlt2 : ¬ ((xs.length : Int) ≤ (k : Int)) := by omega
   obtain ⟨sb, sq, f1, us, A2, c2, hA2, hxk, hsb, k0, k1, hr1⟩ := (HR.out.low HBr.out hB).tm_at hlt
   subst hA2
   have hsz := sizeTs_mem hlt
   rw [hxk] at hsz
   have hs1 : sizeT (.mk f1 us) = 1 + sizeTs us := by rw [sizeT]; omega
   have hcl := fun (w' : World) (hb : Below wr.heap.size wr w') => Hih.out f1 us (.slice A2 us.length c2) false B w' (by omega) (HS.out.low (HBr.out.trans (hb.mono (by omega))) hB) (hr1.low hb (by omega)) (by have := hb.size; omega) hlen
   obtain ⟨bk, hbk⟩ : ∃ b, ovB sig false (.mk f1 us) = b := ⟨_, rfl⟩
   rw [hbk] at hcl
   have hak : ovB sig false xs[k] = bk := by rw [hxk]; exact hbk
   have Hak := Lh hak
   have Hcl := Lh hcl
   have K0 := Lh k0
   have K1 := Lh k1
   have HX1r := Lh (HX1.out.low Hbel.out)
   have HX2r := Lh (HX2.out.low Hbel.out)
   clear hcl hbk hak hxk hr1 hsz hs1 k0 k1
   go_upto_region 11 with fail
   clear p0 p1
   refine bu 8 (fun w' => Below wr.heap.size wr w') (fun wd hwd hbd => ?_) ?_
   · exact hwd ▸ hbd
   refine ru 0 (.agg #[.slice (some ⟨ab, off, none⟩) sig.length cs0]) (fun w' hw => ?_) ?_
   · have o0 := (HX1r.out.low hw).cell
     simp [execOp, go_sem, o0]
   refine pu 1 (.pointer (some ⟨w.heap.size + 1, 1, none⟩)) ?_
   refine ru 2 (.slice (some ⟨sb, sq, none⟩) xs.length c) (fun w' hw => ?_) ?_
   · have o2 := (HX2r.out.low hw).cells.2.1
     simp [execOp, go_sem, o2]
   refine pu 3 (.int .i64 (k : Nat)) ?_
   refine ru 4 (.pointer (some ⟨sb, sq + k * 2, none⟩)) (fun w' hw => ?_) ?_
   · simp [execOp, go_sem, hlt, hlt2]
   refine ru 5 (.agg #[.int .i64 f1, .slice A2 us.length c2]) (fun w' hw => ?_) ?_
   · have o5 := (hw.cell (p := ⟨sb, sq + k * 2, none⟩) (show sb < wr.heap.size by omega)).trans K0.out
     have o6 := (hw.cell (p := ⟨sb, sq + k * 2 + 1, none⟩) (show sb < wr.heap.size by omega)).trans K1.out
     simp [execOp, go_sem, o5, o6]
   refine cu 6 (.bool bk) (fun w' hw => (Hcl.out w' hw).mono ?_) ?_
   · rintro e w2 ⟨rfl, hb⟩
     exact ⟨rfl, hw.trans (hb.mono hw.size)⟩
   refine pu 7 (.bool (!bk)) ?_
   refine du (fun wz hS => ?_)
   have HS5 := Lh hS
   have hbz := hS.size
   obtain ⟨p0, p1, -⟩ := (HX2r.out.low hS).cells
   clear hS
   cases bk with
   | true =>
     have hnew : (xs.take (k + 1)).all (ovB sig false) = true := by
      rw [List.take_succ_eq_append_getElem hlt, List.all_append, Hal.out]
      simp [Hak.out]
     have Hnew := Lh hnew
     clear hnew
     go_wp2_with fail
     go_roundw
     case rel => exact ⟨k + 1, by omega, by go_num, Hnew.out, Hbel.out.trans (HS5.out.mono (by omega))⟩
     case measure => simp [intOf]; omega
   | false =>
     have hr : res = false := by
      rw [← Hres.out, ovBs_all]
      exact List.all_eq_false.2 ⟨xs[k], List.getElem_mem hlt, by rw [Hak.out]; decide⟩
     have Hr := Lh hr
     clear hr
     go_wp2_with fail
     go_ret
     exact ⟨by rw [Hr.out]; rfl, HBr.out.trans (HS5.out.mono (by omega))⟩
 have hr : res = true := by
  rw [← Hres.out, ovBs_all]
  have h := Hal.out
  rw [List.take_of_length_le (by omega)] at h
  exact h
 have Hr := Lh hr
 clear hr
 go_wp2_with fail
 go_ret
 exact ⟨by rw [Hr.out]; rfl, HBr.out⟩
theorem itself_any (f : Int) (xs : List Tm) (v : Int) (A : Option Addr) (c : Nat) (w : World) : Calls Tryz.prog 21 #[.agg #[.int .i64 f, .slice A xs.length c], .int .i64 v] w (BoolRes ((f == wrap64 (-1 - v)) && ((xs.length : Int) == 0)) w) := by
 obtain ⟨res, hres⟩ : ∃ b, ((f == wrap64 (-1 - v)) && ((xs.length : Int) == 0)) = b := ⟨_, rfl⟩
 rw [hres]
 have Hres := Lh hres
 clear hres
 go_enter Tryz.func21, Tryz.ntmps21
 go_upto_region 1 with fail
 obtain ⟨hx1, hB1, hz1⟩ := boxes1 w (.cells #[.int .i64 f, .slice A xs.length c] 32)
 generalize w.alloc (.cells #[.int .i64 f, .slice A xs.length c] 32) = w1 at hx1 hB1 hz1 ⊢
 have hx1 : Box2 w.heap.size 32 (.int .i64 f) (.slice A xs.length c) w1 := hx1
 obtain ⟨p0, p1, -⟩ := hx1.cells
 have HB1 := Lh hB1
 clear hx1 hB1 hz1
 by_cases h1 : f = wrap64 (-1 - v)
 · have e1 : (f == wrap64 (-1 - v)) = true := by rw [beq_iff_eq]; exact h1
   clear h1
   by_cases h2 : xs.length = 0
   · have e2 : ((xs.length : Int) == 0) = true := by rw [h2]; rfl
     have hr : res = true := by rw [← Hres.out, e1, e2]; rfl
     have Hr := Lh hr
     obtain rfl : xs = [] := List.length_eq_zero_iff.1 h2
     clear h2 e2 hr
     go_wp2_with fail
     go_ret
     exact ⟨by rw [Hr.out]; rfl, HB1.out⟩
   have e2 : ((xs.length : Int) == 0) = false := by rw [beq_eq_false_iff_ne]; omega
   have e3 : ¬ xs = [] := fun e => h2 (by rw [e]; rfl)
   have hr : res = false := by rw [← Hres.out, e1, e2]; rfl
   have Hr := Lh hr
   clear h2 hr
   go_wp2_with fail
   go_ret
   exact ⟨by rw [Hr.out]; rfl, HB1.out⟩
 have e1 : (f == wrap64 (-1 - v)) = false := by rw [beq_eq_false_iff_ne]; exact h1
 have hr : res = false := by rw [← Hres.out, e1]; rfl
 have Hr := Lh hr
 clear h1 hr
 go_wp2_with fail
 go_ret
 exact ⟨by rw [Hr.out]; rfl, HB1.out⟩
def ArOk (sig : List Sy) : Prop := 0 < sig.length ∧ ∀ j (h : j < sig.length), 0 ≤ sig[j].ar ∧ sig[j].ar ≤ 6
def Chk2R (sig : List Sy) (t : Tm) (w : World) (e : Ending) (w' : World) : Prop := ∃ n : Int, e = .returned (.int .i64 n) ∧ Below w.heap.size w w' ∧ (n = 0 → ArOk sig ∧ small2B 48 t = true ∧ ovB sig true t = true)
theorem check02_any (sig : List Sy) (A : Option Addr) (cs0 : Nat) (f : Int) (xs : List Tm) (v2 : Value) (B : Nat) (w : World) (hs : Rd w B (encSig sig) (.slice A sig.length cs0)) (hlen : sig.length ≤ 1000) (hr : Rd w B (.sl 2 (encTms xs)) v2) (hz : sizeTs xs ≤ 2000000) (hB : B ≤ w.heap.size) :
 Calls Tryz.prog 19 #[.agg #[.slice A sig.length cs0], .agg #[.int .i64 f, v2]] w (Chk2R sig (.mk f xs) w) := by
 obtain ⟨Ax, c, rfl, -, hn, -⟩ := hr.tm_form
 have hc1 := fun (w' : World) (hb : Below w.heap.size w w') => check01_any sig (.slice A sig.length cs0) B w' (hs.low hb hB) (by have := hb.size; omega)
 have hc2 := fun (w' : World) (hb : Below w.heap.size w w') => small2_any f xs (.slice Ax xs.length c) 48 B w' hz (by decide) (by decide) (hr.low hb hB) (by have := hb.size; omega)
 have hc3 := fun (w' : World) (hb : Below w.heap.size w w') => over02_any sig A cs0 (sizeTs xs + 1) f xs (.slice Ax xs.length c) true B w' (Nat.lt_succ_self _) (hs.low hb hB) (hr.low hb hB) (by have := hb.size; omega) hlen
 obtain ⟨b2, hb2⟩ : ∃ b, small2B 48 (.mk f xs) = b := ⟨_, rfl⟩
 obtain ⟨b3, hb3⟩ : ∃ b, ovB sig true (.mk f xs) = b := ⟨_, rfl⟩
 unfold Chk2R
 rw [hb2] at hc2 ⊢
 rw [hb3] at hc3 ⊢
 have Hc1 := Lh hc1
 have Hc2 := Lh hc2
 have Hc3 := Lh hc3
 clear hs hr hc1 hc2 hc3 hb2 hb3 hz
 go_enter Tryz.func19, Tryz.ntmps19
 go_upto_region 1 with fail
 obtain ⟨hx1, hx2, hB2, hz2⟩ := boxes2 w (.cells #[.slice A sig.length cs0] 24) (.cells #[.int .i64 f, .slice Ax xs.length c] 32)
 generalize (w.alloc (.cells #[.slice A sig.length cs0] 24)).alloc (.cells #[.int .i64 f, .slice Ax xs.length c] 32) = w2 at hx1 hx2 hB2 hz2 ⊢
 have hx1 : Box1 w.heap.size 24 (.slice A sig.length cs0) w2 := hx1
 have hx2 : Box2 (w.heap.size + 1) 32 (.int .i64 f) (.slice Ax xs.length c) w2 := hx2
 have HX1 := Lh hx1
 have HX2 := Lh hx2
 have HB2 := Lh hB2
 have hz2l : w.heap.size + 1 < w2.heap.size := by omega
 have q1 := hx1.cell
 clear hx1 hx2 hB2 hz2
 go_wp2_with fail
 refine (Hc1.out w2 HB2.out).mono ?_
 rintro e w3 ⟨n, rfl, hb3, hn0⟩
 have hz3 := hb3.size
 have HB3 := Lh (HB2.out.trans (hb3.mono (by omega)))
 have HX13 := Lh (HX1.out.low hb3)
 have HX23 := Lh (HX2.out.low hb3)
 clear q1 hb3
 by_cases h0 : n = 0
 rotate_left
 · have hnb : (n != 0) = true := by rw [bne_iff_ne]; exact h0
   clear h0 hn0
   go_wp2_with fail
   go_ret
   exact ⟨2, rfl, HB3.out, fun e => absurd e (by decide)⟩
 have hnb : (n != 0) = false := by rw [h0]; rfl
 have hark : ArOk sig := by
  obtain ⟨⟨g0, g1, g2⟩, g3⟩ := hn0 h0
  refine ⟨g0, fun j hj => ?_⟩
  by_cases hj0 : j = 0
  · subst hj0; omega
  exact g3 j hj (by omega)
 have Har := Lh hark
 clear h0 hn0 hark
 obtain ⟨p0, p1, -⟩ := HX23.out.cells
 go_wp2_with fail
 refine (Hc2.out w3 HB3.out).mono ?_
 rintro e w4 ⟨rfl, hb4⟩
 have hz4 := hb4.size
 have HB4 := Lh (HB3.out.trans (hb4.mono (by omega)))
 have HX14 := Lh (HX13.out.low hb4)
 have HX24 := Lh (HX23.out.low hb4)
 clear p0 p1 hb4
 cases b2 with
 | false =>
   go_wp2_with fail
   go_ret
   exact ⟨2, rfl, HB4.out, fun e => absurd e (by decide)⟩
 | true =>
   obtain ⟨p0, p1, -⟩ := HX24.out.cells
   have q1 := HX14.out.cell
   go_wp2_with fail
   refine (Hc3.out w4 HB4.out).mono ?_
   rintro e w5 ⟨rfl, hb5⟩
   have HB5 := Lh (HB4.out.trans (hb5.mono (by omega)))
   clear p0 p1 q1 hb5
   cases b3 with
   | false =>
     go_wp2_with fail
     go_ret
     exact ⟨2, rfl, HB5.out, fun e => absurd e (by decide)⟩
   | true =>
     go_wp2_with fail
     go_ret
     exact ⟨0, rfl, HB5.out, fun _ => by first | exact Har.out | exact ⟨Har.out, rfl, rfl⟩⟩
theorem turn_any (r : Rl) (w : World) : Calls Tryz.prog 9 #[.int .i64 r.int] w (fun e w' => e = .returned (.int .i64 r.turn.int) ∧ w' = w) := by
 cases r
 all_goals
  go_enter Tryz.func9, Tryz.ntmps9
  simp only [Rl.int]
  go_wp2_with fail
  go_ret
  exact ⟨rfl, rfl⟩
def PrP (sig : List Sy) (t : Tm) : Prop := ArOk sig ∧ small2B 48 t = true ∧ ovB sig true t = true ∧ sizeT t ≤ 30 ∧ (0 ≤ t.fn → (((sig[t.fn.toNat]?).map Sy.pr).getD false) = false)
def PrR (sig : List Sy) (t : Tm) (w : World) (e : Ending) (w' : World) : Prop := ∃ b : Bool, e = .returned (.bool b) ∧ Below w.heap.size w w' ∧ (b = true → PrP sig t)
theorem ovB_top {sig : List Sy} {top : Bool} {f : Int} {xs : List Tm} (h : ovB sig top (.mk f xs) = true) (hf : 0 ≤ f) : f.toNat < sig.length := by
 rw [ovB, decide_eq_false (by omega), Bool.false_or] at h
 by_cases hl : f.toNat < sig.length
 · exact hl
 rw [List.getElem?_eq_none (by omega)] at h
 simp at h
theorem proper_any (sig : List Sy) (A : Option Addr) (cs0 : Nat) (f : Int) (xs : List Tm) (v2 : Value) (B : Nat) (w : World) (hs : Rd w B (encSig sig) (.slice A sig.length cs0)) (hlen : sig.length ≤ 1000) (hr : Rd w B (.sl 2 (encTms xs)) v2) (hz : sizeTs xs ≤ 2000000) (hB : B ≤ w.heap.size) :
 Calls Tryz.prog 6 #[.agg #[.slice A sig.length cs0], .agg #[.int .i64 f, v2]] w (PrR sig (.mk f xs) w) := by
 obtain ⟨Ax, c, rfl, -, hn, -⟩ := hr.tm_form
 have hc1 := fun (w' : World) (hb : Below w.heap.size w w') => check02_any sig A cs0 f xs (.slice Ax xs.length c) B w' (hs.low hb hB) hlen (hr.low hb hB) hz (by have := hb.size; omega)
 have hc2 := fun (w' : World) (hb : Below w.heap.size w w') => size2_any (sizeTs xs + 1) f xs (.slice Ax xs.length c) B w' (Nat.lt_succ_self _) (by omega) (hr.low hb hB) (by have := hb.size; omega)
 have hsz : sizeT (.mk f xs) = sizeTs xs + 1 := by rw [sizeT]
 have HS := Lh hs
 have Hc1 := Lh hc1
 have Hc2 := Lh hc2
 clear hs hr hc1 hc2
 go_enter Tryz.func6, Tryz.ntmps6
 go_upto_region 1 with fail
 obtain ⟨hx1, hx2, hB2, hz2⟩ := boxes2 w (.cells #[.slice A sig.length cs0] 24) (.cells #[.int .i64 f, .slice Ax xs.length c] 32)
 generalize (w.alloc (.cells #[.slice A sig.length cs0] 24)).alloc (.cells #[.int .i64 f, .slice Ax xs.length c] 32) = w2 at hx1 hx2 hB2 hz2 ⊢
 have hx1 : Box1 w.heap.size 24 (.slice A sig.length cs0) w2 := hx1
 have hx2 : Box2 (w.heap.size + 1) 32 (.int .i64 f) (.slice Ax xs.length c) w2 := hx2
 have HX1 := Lh hx1
 have HX2 := Lh hx2
 have HB2 := Lh hB2
 have hz2l : w.heap.size + 1 < w2.heap.size := by omega
 have q1 := hx1.cell
 obtain ⟨p0, p1, -⟩ := hx2.cells
 clear hx1 hx2 hB2 hz2
 go_wp2_with fail
 refine (Hc1.out w2 HB2.out).mono ?_
 rintro e w3 ⟨n, rfl, hb3, hn0⟩
 have hz3 := hb3.size
 have HB3 := Lh (HB2.out.trans (hb3.mono (by omega)))
 have HX13 := Lh (HX1.out.low hb3)
 have HX23 := Lh (HX2.out.low hb3)
 clear q1 p0 p1 hb3
 by_cases h0 : n = 0
 rotate_left
 · have hnb : (n == 0) = false := by rw [beq_eq_false_iff_ne]; exact h0
   clear h0 hn0
   go_wp2_with fail
   go_ret
   exact ⟨false, rfl, HB3.out, fun e => by cases e⟩
 have hnb : (n == 0) = true := by rw [h0]; rfl
 have Hck := Lh (hn0 h0)
 clear h0 hn0
 obtain ⟨p0, p1, -⟩ := HX23.out.cells
 go_wp2_with fail
 refine (Hc2.out w3 HB3.out).mono ?_
 rintro e w4 ⟨rfl, hb4⟩
 have hz4 := hb4.size
 have HB4 := Lh (HB3.out.trans (hb4.mono (by omega)))
 have HX14 := Lh (HX13.out.low hb4)
 have HX24 := Lh (HX23.out.low hb4)
 clear p0 p1 hb4
 by_cases h30 : sizeTs xs + 1 ≤ 30
 rotate_left
 · have h30' : ¬ ((sizeTs xs : Int) + 1 ≤ 30) := by omega
   go_wp2_with fail
   go_ret
   exact ⟨false, rfl, HB4.out, fun e => by cases e⟩
 have h30' : (sizeTs xs : Int) + 1 ≤ 30 := by omega
 obtain ⟨p0, p1, -⟩ := HX24.out.cells
 by_cases hf : f < 0
 · have hfin : PrP sig (.mk f xs) := ⟨Hck.out.1, Hck.out.2.1, Hck.out.2.2, by omega, fun h => absurd h (by show ¬ 0 ≤ f; omega)⟩
   have Hfin := Lh hfin
   clear hfin
   go_wp2_with fail
   go_ret
   exact ⟨true, rfl, HB4.out, fun _ => Hfin.out⟩
 obtain ⟨fn, rfl⟩ : ∃ fn : Nat, f = ((fn : Nat) : Int) := ⟨f.toNat, by omega⟩
 have hfN := ovB_top Hck.out.2.2 (by omega)
 rw [Int.toNat_natCast] at hfN
 have hfN2 : ¬ (sig.length : Int) ≤ (fn : Int) := by omega
 obtain ⟨ab, off, hA, hab, s0, s1, s2⟩ := (HS.out.low HB4.out hB).sy_at hfN
 subst hA
 have hpe : ((sig[fn]?).map Sy.pr).getD false = sig[fn].pr := by rw [List.getElem?_eq_getElem hfN]; rfl
 have hfin : sig[fn].pr = false → PrP sig (.mk (fn : Nat) xs) := fun h => ⟨Hck.out.1, Hck.out.2.1, Hck.out.2.2, by omega, fun _ => by show ((sig[((fn : Nat) : Int).toNat]?).map Sy.pr).getD false = false; rw [Int.toNat_natCast, hpe]; exact h⟩
 have Hfin := Lh hfin
 clear hfin hpe s0 s1
 obtain ⟨pd, hpd⟩ : ∃ b, sig[fn].pr = b := ⟨_, rfl⟩
 rw [hpd] at s2
 have q1 := HX14.out.cell
 cases pd with
 | true =>
   clear hpd Hfin
   go_wp2_with fail
   go_ret
   exact ⟨false, rfl, HB4.out, fun e => by cases e⟩
 | false =>
   have Hpd := Lh hpd
   clear hpd
   go_wp2_with fail
   go_ret
   exact ⟨true, rfl, HB4.out, fun _ => Hfin.out Hpd.out⟩
-- No symbol lies so low that 48 less would be another.
mutual
def lowT : Tm → Bool
 | .mk f xs => decide (-9000000000000000000 ≤ f) && lowTs xs
def lowTs : List Tm → Bool
 | [] => true
 | x :: xs => lowT x && lowTs xs
end
theorem lowTs_mem : ∀ {xs : List Tm} {k : Nat}, lowTs xs = true → (h : k < xs.length) → lowT xs[k] = true
 | x :: xs, 0, h, _ => by rw [lowTs] at h; simp at h; exact h.1
 | x :: xs, k + 1, h, hk => by rw [lowTs] at h; simp at h; exact lowTs_mem h.2 (by simpa using hk)
def CpOut (f : Int) (xs : List Tm) (w : World) (e : Ending) (w' : World) : Prop :=
 ∃ A c, e = .returned (.agg #[.int .i64 f, .slice A xs.length c]) ∧ RdP w' (fun b => w.heap.size ≤ b) (.sl 2 (encTms xs)) (.slice A xs.length c) ∧ Below w.heap.size w w'
theorem copy02_out (f : Int) (xs : List Tm) (v2 : Value) (B : Nat) (w : World) (hz : sizeTs xs ≤ 2000000) (hr : Rd w B (.sl 2 (encTms xs)) v2) (hB : B ≤ w.heap.size) :
 Calls Tryz.prog 27 #[.agg #[.int .i64 f, v2]] w (CpOut f xs w) :=
 (copy02_any (sizeTs xs + 1) f xs v2 B w (Nat.lt_succ_self _) hz hr hB).mono fun _ _ h => h
abbrev Sb := List (Int × Tm)
def encBd (p : Int × Tm) : List Tr := .leaf (.int .i64 p.1) :: encTm p.2
def encSb (l : Sb) : Tr := .sl 3 (l.map encBd)
def getL (l : Sb) (v : Int) : Option Tm := (l.find? fun p => decide (p.1 = v)).map (·.2)
theorem Rd.bd_at {w : World} {B k n c : Nat} {A : Option Addr} {l : Sb} (h : Rd w B (encSb l) (.slice A n c)) (hk : k < l.length) :
 ∃ ab off v f ys A2 c2, A = some ⟨ab, off, none⟩ ∧ l[k] = (v, .mk f ys) ∧ ab < B ∧ w.cell? ⟨ab, off + k * 3, none⟩ = some (.int .i64 v) ∧ w.cell? ⟨ab, off + k * 3 + 1, none⟩ = some (.int .i64 f) ∧ w.cell? ⟨ab, off + k * 3 + 2, none⟩ = some (.slice A2 ys.length c2) ∧ Rd w B (.sl 2 (encTms ys)) (.slice A2 ys.length c2) := by
 unfold encSb at h
 obtain ⟨ab, off, us, hA, hb, hc, hr⟩ := h.at_ (k := k) (by simpa using hk)
 obtain ⟨v, f, ys, hp⟩ : ∃ v f ys, l[k] = (v, Tm.mk f ys) := by
  rcases l[k] with ⟨v, ⟨f, ys⟩⟩
  exact ⟨v, f, ys, rfl⟩
 have hrow : (l.map encBd)[k]'(by simpa using hk) = [.leaf (.int .i64 v), .leaf (.int .i64 f), .sl 2 (encTms ys)] := by simp [hp, encBd, encTm]
 have h0 := hr 0 (by rw [hrow]; simp)
 have h1 := hr 1 (by rw [hrow]; simp)
 have h2 := hr 2 (by rw [hrow]; simp)
 simp only [hrow, List.getElem_cons_zero, List.getElem_cons_succ] at h0 h1 h2
 have e0 := h0.leaf_inv
 have e1 := h1.leaf_inv
 obtain ⟨A2, c2, e2, -⟩ := h2.tm_form
 refine ⟨ab, off, v, f, ys, A2, c2, hA, hp, hb, ?_, ?_, ?_, ?_⟩
 · rw [← e0, ← hc 0 (by omega), Nat.add_zero]
 · rw [← e1, ← hc 1 (by omega)]
 · rw [← e2, ← hc 2 (by omega)]
 rw [← e2]; exact h2
def GetRes (r : Option Tm) (w : World) (e : Ending) (w' : World) : Prop :=
 Below w.heap.size w w' ∧ match r with
  | none => e = .returned (.tuple #[.agg #[.int .i64 0, .slice none 0 0], .bool false])
  | some t => ∃ A c, e = .returned (.tuple #[.agg #[.int .i64 t.fn, .slice A t.args.length c], .bool true]) ∧ RdP w' (fun b => w.heap.size ≤ b) (.sl 2 (encTms t.args)) (.slice A t.args.length c)
theorem get04_any (l : Sb) (v : Int) (vl : Value) (B : Nat) (w : World) (hr : Rd w B (encSb l) vl) (hz : ∀ p ∈ l, sizeT p.2 ≤ 2000000) (hB : B ≤ w.heap.size) :
 Calls Tryz.prog 25 #[vl, .int .i64 v] w (GetRes (getL l v) w) := by
 obtain ⟨A, c, rfl, hc, hn, hm⟩ := Rd.row_form (show Rd w B (.sl 3 (l.map encBd)) vl from hr)
 have H3 := Lh hr
 have Hz := Lh hz
 clear hr hz
 go_enter Tryz.func25, Tryz.ntmps25
 go_upto_region 1 with fail
 have hb1 := below_box w (.cells #[.int .i64 0, .slice none 0 0] 32)
 have hx1 : Box2 w.heap.size 32 (.int .i64 0) (.slice none 0 0) (w.alloc (.cells #[.int .i64 0, .slice none 0 0] 32)) := heap_alloc_new w _
 have hz1 : (w.alloc (.cells #[.int .i64 0, .slice none 0 0] 32)).heap.size = w.heap.size + 1 := by simp
 generalize w.alloc (.cells #[.int .i64 0, .slice none 0 0] 32) = w1 at hx1 hb1 hz1 ⊢
 have HX1 := Lh hx1
 have HB1 := Lh hb1
 clear hx1 hb1
 go_wp2_with fail
 go_loopw [6] (fun i wr => ∃ k : Nat, k ≤ l.length ∧ i = .int .i64 k ∧ (∀ j (h : j < l.length), j < k → l[j].1 ≠ v) ∧ Below w1.heap.size w1 wr) (fun i _ => l.length - (intOf i).toNat)
 case atStart => exact ⟨0, Nat.zero_le _, rfl, fun j _ h => by omega, Below.refl _ _⟩
 obtain ⟨k, hk, rfl, hall, hbel⟩ := hrel
 have hzr := hbel.size
 have Hall := Lh hall
 have Hbel := Lh hbel
 have Hbr := Lh (HB1.out.trans (hbel.mono (by omega)))
 have HXr := Lh (HX1.out.low hbel)
 clear hall hbel
 by_cases hlt : k < l.length
 · obtain ⟨ab, off, x, f, ys, A2, c2, rfl, hpk, hab, k0, k1, k2, hrd⟩ := (H3.out.low Hbr.out hB).bd_at hlt
   have hzk := Hz.out l[k] (List.getElem_mem hlt)
   rw [hpk] at hzk
   have hzk : sizeT (.mk f ys) ≤ 2000000 := hzk
   rw [sizeT] at hzk
   have Hpk := Lh hpk
   clear hpk
   by_cases hx : x = v
   · have hgl : getL l v = some (.mk f ys) := by
      unfold getL
      have : l.find? (fun p => decide (p.1 = v)) = some l[k] := by
       rw [List.find?_eq_some_iff_getElem]
       refine ⟨by rw [Hpk.out]; simpa using hx, k, hlt, rfl, fun j hj => ?_⟩
       have := Hall.out j (by omega) hj
       simpa using this
      rw [this, Hpk.out]; rfl
     have Hgl := Lh hgl
     have hcp := copy02_out f ys (.slice A2 ys.length c2) B wr (by omega) hrd (by have := Hbr.out.size; omega)
     have Hcp := Lh hcp
     clear hrd hcp hgl
     go_wp2_with fail
     refine Hcp.out.mono ?_
     rintro e w6 ⟨At, nt, rfl, hrt, hb6⟩
     have hx6 := HXr.out.low hb6
     obtain ⟨y0, y1, y2⟩ := hx6.cells
     have hset := hx6.set (.int .i64 f) (.slice At ys.length nt)
     have hzb := Hbr.out.size
     have hr9 := hrt.upd hset.2 (fun b hb _ e => by have : wr.heap.size ≤ b := hb; omega)
     have hb9 : Below w.heap.size w ((w6.setCell ⟨w.heap.size, 0, none⟩ (.int .i64 f)).setCell ⟨w.heap.size, 1, none⟩ (.slice At ys.length nt)) := (Hbr.out.trans (hb6.mono hzb)).trans (hset.2.toLow (by have := hb6.size; omega) (fun b e => by omega))
     have Hset := Lh hset.1
     have Hr9 := Lh hr9
     have Hb9 := Lh hb9
     clear hrt hb6 hx6 hset hr9 hb9
     go_wp2_with fail
     obtain ⟨j0, j1, -⟩ := Hset.out.cells
     refine bodyPost_ret (v := .tuple #[.agg #[.int .i64 f, .slice At ys.length nt], .bool true]) (by simp [results, Tryz.results25, go_sem, j0, j1]) rfl ?_
     rw [Hgl.out]
     exact ⟨Hb9.out, At, nt, rfl, Hr9.out.more fun b hb _ => by have : wr.heap.size ≤ b := hb; omega⟩
   go_wp2_with fail
   go_roundw
   case rel =>
    refine ⟨k + 1, by omega, by go_num, fun j hj hjk => ?_, Hbel.out⟩
    by_cases e : j = k
    · subst e; rw [Hpk.out]; exact hx
    exact Hall.out j hj (by omega)
   case measure => simp [intOf]; omega
 have hgl : getL l v = none := by
  unfold getL
  have : l.find? (fun p => decide (p.1 = v)) = none := by
   rw [List.find?_eq_none]
   intro p hp
   obtain ⟨j, hj, rfl⟩ := List.mem_iff_getElem.1 hp
   have := Hall.out j hj (by omega)
   simpa using this
  rw [this]; rfl
 have Hgl := Lh hgl
 clear hgl
 obtain ⟨y0, y1, y2⟩ := HXr.out.cells
 have hset := HXr.out.set (.int .i64 0) (.slice none 0 0)
 have hb9 : Below w.heap.size w ((wr.setCell ⟨w.heap.size, 0, none⟩ (.int .i64 0)).setCell ⟨w.heap.size, 1, none⟩ (.slice none 0 0)) := Hbr.out.trans (hset.2.toLow Hbr.out.size (fun b e => by omega))
 have Hset := Lh hset.1
 have Hb9 := Lh hb9
 clear hset hb9
 go_wp2_with fail
 obtain ⟨j0, j1, -⟩ := Hset.out.cells
 refine bodyPost_ret (v := .tuple #[.agg #[.int .i64 0, .slice none 0 0], .bool false]) (by simp [results, Tryz.results25, go_sem, j0, j1]) rfl ?_
 rw [Hgl.out]
 exact ⟨Hb9.out, rfl⟩
def subOf (l : Sb) : Int → Option Tm := fun f => getL l (-1 - f)
theorem putU_none {σ : Int → Option Tm} {f : Int} (xs : List Tm) (h : f < 0 → σ f = none) : putU σ (.mk f xs) = .mk f (xs.map (putU σ)) := by
 rw [putU, ← putUs_map]
 by_cases hf : f < 0
 · rw [if_pos hf, h hf]
 rw [if_neg hf]
theorem apply04_any (l : Sb) (hzl : ∀ p ∈ l, sizeT p.2 ≤ 2000000) (D : Nat) : ∀ (f : Int) (xs : List Tm) (v2 vl : Value) (B : Nat) (w : World), sizeTs xs < D → (sizeTs xs ≤ 2000000 ∧ lowT (.mk f xs) = true) → Rd w B (.sl 2 (encTms xs)) v2 → Rd w B (encSb l) vl → B ≤ w.heap.size →
 Calls Tryz.prog 11 #[vl, .agg #[.int .i64 f, v2]] w (CpRes (putU (subOf l) (.mk f xs)) w) := by
 induction D with
 | zero => intro f xs v2 vl B w h; omega
 | succ D ih =>
 intro f xs v2 vl B w hD hxs hr hrl hB
 obtain ⟨hxs, hlt0⟩ := hxs
 rw [lowT, Bool.and_eq_true, decide_eq_true_eq] at hlt0
 obtain ⟨hf1, hlts⟩ := hlt0
 have Hlts := Lh hlts
 clear hlts
 obtain ⟨A, c, rfl, hc, hn, hm⟩ := hr.tm_form
 obtain ⟨Al, cl, rfl, hlc, hln, hlm⟩ := Rd.row_form (show Rd w B (.sl 3 (l.map encBd)) vl from hrl)
 have H3 := Lh hr
 have HL := Lh hrl
 have Hih := Lh ih
 have hlz := len_le_sizeTs xs
 clear hr hrl ih
 by_cases hf : f < 0
 · obtain ⟨j, hj⟩ : ∃ j : Int, -1 - f = j := ⟨_, rfl⟩
   have hjw : wrap64 (-1 - f) = j := by rw [← hj]; unfold wrap64; omega
   have hso : subOf l f = getL l j := by unfold subOf; rw [hj]
   obtain ⟨r, hr⟩ : ∃ r, getL l j = r := ⟨_, rfl⟩
   rw [hr] at hso
   have hgt := fun (w' : World) (hb : Below w.heap.size w w') => get04_any l j (.slice Al l.length cl) B w' (HL.out.low hb hB) hzl (by have := hb.size; omega)
   rw [hr] at hgt
   have Hgt := Lh hgt
   clear hgt hr
   cases r with
   | some t =>
     have hput : putU (subOf l) (.mk f xs) = t := by rw [putU, if_pos hf, hso]
     rw [hput]
     clear hput hso
     go_enter Tryz.func11, Tryz.ntmps11
     go_upto_region 1 with fail
     obtain ⟨hx1, hx2, hB2, hz2⟩ := boxes2 w (.cells #[.int .i64 f, .slice A xs.length c] 32) (.cells #[.int .i64 0, .slice none 0 0] 32)
     have hx1 : Box2 w.heap.size 32 (.int .i64 f) (.slice A xs.length c) _ := hx1
     have hx2 : Box2 (w.heap.size + 1) 32 (.int .i64 0) (.slice none 0 0) _ := hx2
     generalize (w.alloc (.cells #[.int .i64 f, .slice A xs.length c] 32)).alloc (.cells #[.int .i64 0, .slice none 0 0] 32) = w2 at hx1 hx2 hB2 hz2 ⊢
     have HX1 := Lh hx1
     have HX2 := Lh hx2
     have HB2 := Lh hB2
     obtain ⟨x10, x11, -⟩ := hx1.cells
     clear hx1 hx2 hB2
     go_wp2_with fail
     refine (Hgt.out w2 HB2.out).mono ?_
     rintro e w5 ⟨hb5, At, nt, rfl, hrt⟩
     obtain ⟨tf, ta⟩ := t
     simp only [Tm.fn, Tm.args] at hrt ⊢
     have hx5 := HX2.out.low hb5
     obtain ⟨y0, y1, y2⟩ := hx5.cells
     have HX5 := Lh hx5
     have Hrt := Lh hrt
     have Hb5 := Lh hb5
     clear hb5 hx5 hrt
     go_upto_region 3 with fail
     have hb6 := below_box w5 (.cells #[.int .i64 tf, .slice At ta.length nt] 32)
     have hx6 : Box2 w5.heap.size 32 (.int .i64 tf) (.slice At ta.length nt) (w5.alloc (.cells #[.int .i64 tf, .slice At ta.length nt] 32)) := heap_alloc_new w5 _
     generalize w5.alloc (.cells #[.int .i64 tf, .slice At ta.length nt] 32) = w6 at hb6 hx6 ⊢
     obtain ⟨z0, z1, -⟩ := hx6.cells
     have hxr := HX5.out.low hb6
     obtain ⟨y0, y1, y2⟩ := hxr.cells
     have hset := hxr.set (.int .i64 tf) (.slice At ta.length nt)
     have hz5 := Hb5.out.size
     have hr9 := (Hrt.out.low hb6).upd hset.2 (fun b hb _ e => by have : w2.heap.size ≤ b := hb; omega)
     have hb9 : Below w.heap.size w ((w6.setCell ⟨w.heap.size + 1, 0, none⟩ (.int .i64 tf)).setCell ⟨w.heap.size + 1, 1, none⟩ (.slice At ta.length nt)) := ((HB2.out.trans (Hb5.out.mono (by omega))).trans (hb6.mono (by omega))).trans (hset.2.toLow (by have := hb6.size; omega) (fun b e => by omega))
     have Hset := Lh hset.1
     have Hr9 := Lh hr9
     have Hb9 := Lh hb9
     have Hz2 := Lh hz2
     clear hset hr9 hb9 hxr hb6 hx6 Hrt HX5 Hb5 hj hjw Hgt hz2
     go_wp2_with fail
     obtain ⟨j0, j1, -⟩ := Hset.out.cells
     refine bodyPost_ret (v := .agg #[.int .i64 tf, .slice At ta.length nt]) (by simp [results, Tryz.results11, go_sem, j0, j1]) rfl ⟨At, nt, rfl, Hr9.out.more (fun b hb _ => by have : w2.heap.size ≤ b := hb; have := Hz2.out; omega), Hb9.out⟩
   | none =>
     rw [putU_none xs (fun _ => hso)]
     clear hso
     go_enter Tryz.func11, Tryz.ntmps11
     go_upto_region 1 with fail
     obtain ⟨hx1, hx2, hB2, hz2⟩ := boxes2 w (.cells #[.int .i64 f, .slice A xs.length c] 32) (.cells #[.int .i64 0, .slice none 0 0] 32)
     have hx1 : Box2 w.heap.size 32 (.int .i64 f) (.slice A xs.length c) _ := hx1
     have hx2 : Box2 (w.heap.size + 1) 32 (.int .i64 0) (.slice none 0 0) _ := hx2
     generalize (w.alloc (.cells #[.int .i64 f, .slice A xs.length c] 32)).alloc (.cells #[.int .i64 0, .slice none 0 0] 32) = w2 at hx1 hx2 hB2 hz2 ⊢
     have HX1 := Lh hx1
     have HX2 := Lh hx2
     have HB2 := Lh hB2
     obtain ⟨x10, x11, -⟩ := hx1.cells
     clear hx1 hx2 hB2
     go_upto_region 5 with (go_at_call 25
                            refine (Hgt.out w2 HB2.out).mono ?_
                            rintro e w5 ⟨hb5, rfl⟩
                            have Hb5 := Lh hb5
                            obtain ⟨x10, x11, -⟩ := (HX1.out.low hb5).cells
                            clear hb5)
     have hbq := below_box w5 (.cells #[.int .i64 0, .slice none 0 0] 32)
     have hzq : w.heap.size + 2 ≤ (w5.alloc (.cells #[.int .i64 0, .slice none 0 0] 32)).heap.size := by have := Hb5.out.size; simp; omega
     generalize w5.alloc (.cells #[.int .i64 0, .slice none 0 0] 32) = wq at hbq hzq ⊢
     have HQ1 := Lh ((HX1.out.low Hb5.out).low hbq)
     have HQ2 := Lh ((HX2.out.low Hb5.out).low hbq)
     have HQB := Lh ((HB2.out.trans (Hb5.out.mono (by omega))).trans (hbq.mono (by have := Hb5.out.size; omega)))
     clear HX1 HX2 HB2 hz2 hbq Hb5 x10 x11 hj hjw Hgt
     obtain ⟨x10, x11, -⟩ := HQ1.out.cells
     -- the out box: from the world wq, in which the boxes stand
     go_upto_region 6 with fail
     have hb7 := below_box wq (.cells #[.int .i64 f, .slice none 0 0] 32)
     have hx7 : Box2 wq.heap.size 32 (.int .i64 f) (.slice none 0 0) (wq.alloc (.cells #[.int .i64 f, .slice none 0 0] 32)) := heap_alloc_new wq _
     have hz7 : (wq.alloc (.cells #[.int .i64 f, .slice none 0 0] 32)).heap.size = wq.heap.size + 1 := by simp
     generalize wq.alloc (.cells #[.int .i64 f, .slice none 0 0] 32) = w4 at hb7 hx7 hz7 ⊢
     have H1 := Lh (HQ1.out.low hb7)
     have H2 := Lh (HQ2.out.low hb7)
     have HB4 := Lh (HQB.out.trans (hb7.mono (by omega)))
     have Hz4 := Lh (show wq.heap.size + 1 ≤ w4.heap.size by omega)
     obtain ⟨ob, hob⟩ : ∃ ob, wq.heap.size = ob := ⟨_, rfl⟩
     rw [hob] at hx7 ⊢
     have H4 := Lh hx7
     obtain ⟨x10, x11, -⟩ := H1.out.cells
     clear hb7 hx7 hz7
     go_upto_region 7 with fail
     have hz4 := Hz4.out
     go_loopw [8] (fun i wr => ∃ k : Nat, k ≤ xs.length ∧ i = .int .i64 k ∧ ∃ u, Box2 ob 32 (.int .i64 f) u wr ∧ OwnR wr (fun _ => False) w4.heap.size 32 2 u (encTms ((xs.map (putU (subOf l))).take k)) ∧ Upd w4 wr (fun b => b = ob)) (fun i _ => xs.length - (intOf i).toNat)
     case atStart => exact ⟨0, Nat.zero_le _, rfl, _, H4.out, OwnR.nil _ _ _ _ _, Upd.refl _ _⟩
     obtain ⟨k, hk, rfl, u, hbu, hown, hur⟩ := hrel
     have hzr := hur.size
     have huo := hown.lt
     have hb1r := H1.out.upd hur (by omega)
     obtain ⟨y10, y11, -⟩ := hb1r.cells
     have hb2r := H2.out.upd hur (by omega)
     have hlowr : Below w.heap.size w wr := HB4.out.trans (hur.toLow (by omega) (fun b e => by omega))
     by_cases hlt : k < xs.length
     · obtain ⟨ab, off, f', ys, A2, c2, rfl, hxk, hab, k0, k1, hrd⟩ := (H3.out.low hlowr hB).tm_at hlt
       have hs1 := sizeTs_mem hlt
       (have hl1 := lowTs_mem Hlts.out hlt; rw [hxk] at hl1)
       rw [hxk] at hs1
       simp only [sizeT] at hs1
       have hsl : k < (xs.map (putU (subOf l))).length := by rw [List.length_map]; exact hlt
       have hlk : (encTms ((xs.map (putU (subOf l))).take k)).length = k := by rw [encTms_len, List.length_take, List.length_map]; omega
       obtain ⟨t, ht⟩ : ∃ t, (putU (subOf l)) (Tm.mk f' ys) = t := ⟨_, rfl⟩
       have hgt : (xs.map (putU (subOf l)))[k] = t := by
        rw [← ht, ← hxk, List.getElem_map]
       have hsn : encTms ((xs.map (putU (subOf l))).take (k + 1)) = encTms ((xs.map (putU (subOf l))).take k) ++ [encTm t] := by
        rw [List.take_succ_eq_append_getElem hsl, encTms_map, encTms_map, List.map_append, hgt]
        rfl
       have hki : ¬ ((xs.length : Int) ≤ (k : Int)) := by omega
       have hcl := fun (w' : World) (hb : Below wr.heap.size wr w') => Hih.out f' ys _ _ _ w' (by omega) ⟨by omega, hl1⟩ (hrd.low hb (by have := hlowr.size; omega)) (HL.out.low (hlowr.trans (hb.mono hlowr.size)) hB) (by have := hlowr.size; have := hb.size; omega)
       rw [ht] at hcl
       have Hcl := Lh hcl
       have Hsn := Lh hsn
       have Hlk := Lh hlk
       have Hbu := Lh hbu
       have Hown := Lh hown
       have Hur := Lh hur
       have Hb1r := Lh hb1r
       have K0 := Lh k0
       have K1 := Lh k1
       have hlz2 := hlowr.size
       clear hxk hrd hgt hsn hlk hcl ht hbu hown hur hb1r hb2r hlowr k0 k1
       go_upto_region 9 with fail
       clear y10 y11
       refine rg 13 (fun L w' => Upd wr w' (fun b => b = ob ∨ u.ownBlock = some b) ∧ (L.getD 12 false = false → Box2 ob 32 (.int .i64 f) u w')) ?_
       intro wd hwd hbd
       refine ⟨?_, fun hS => ?_⟩
       · exact ⟨Upd.low (hwd ▸ hbd) _, fun _ => Hbu.out.low (hwd ▸ hbd)⟩
       refine tk 0 (.pointer (some ⟨ob, 1, none⟩)) hS ?_ (fun hS => ?_) (hins := fun L w => by simp only [flag_ne (l := L) (i := 0) (k := 12) (by decide)])
       · intro w' L hn hw
         have n12 := hn.flag 12 (by kernel_rfl)
         simp [execOp, go_sem]
       refine tk 1 (u) hS ?_ (fun hS => ?_) (hins := fun L w => by simp only [flag_ne (l := L) (i := 1) (k := 12) (by decide)])
       · intro w' L hn hw
         have hh := (hw.2 (hn.flag 12 (by kernel_rfl))).cells
         simp [execOp, go_sem, hh.2.1]
       refine ta 2 (.slice Al l.length cl) hS (fun hS => ?_) (hins := fun L w => by simp only [flag_ne (l := L) (i := 2) (k := 12) (by decide)])
       refine tk 3 (.pointer (some ⟨w.heap.size, 1, none⟩)) hS ?_ (fun hS => ?_) (hins := fun L w => by simp only [flag_ne (l := L) (i := 3) (k := 12) (by decide)])
       · intro w' L hn hw
         have n12 := hn.flag 12 (by kernel_rfl)
         simp [execOp, go_sem]
       refine tk 4 (.slice (some ⟨ab, off, none⟩) xs.length c) hS ?_ (fun hS => ?_) (hins := fun L w => by simp only [flag_ne (l := L) (i := 4) (k := 12) (by decide)])
       · intro w' L hn hw
         obtain ⟨q0, q1, -⟩ := (Hb1r.out.upd hw.1 (fun e => by rcases e with e | e; omega; have := (huo _ e).1; omega)).cells
         simp [execOp, go_sem, q1]
       refine ta 5 (.int .i64 (k : Nat)) hS (fun hS => ?_) (hins := fun L w => by simp only [flag_ne (l := L) (i := 5) (k := 12) (by decide)])
       refine tk 6 (.pointer (some ⟨ab, off + k * 2, none⟩)) hS ?_ (fun hS => ?_) (hins := fun L w => by simp only [flag_ne (l := L) (i := 6) (k := 12) (by decide)])
       · intro w' L hn hw
         have n12 := hn.flag 12 (by kernel_rfl)
         simp [execOp, go_sem, hlt, hki]
       refine tk 7 (.agg #[.int .i64 f', .slice A2 ys.length c2]) hS ?_ (fun hS => ?_) (hins := fun L w => by simp only [flag_ne (l := L) (i := 7) (k := 12) (by decide)])
       · intro w' L hn hw
         have hbl := hw.1.block ab (by omega) (fun e => by rcases e with e | e; omega; have := (huo _ e).1; omega)
         have q0 := (World.cell?_of_block (a := ⟨ab, off + k * 2, none⟩) hbl).trans K0.out
         have q1 := (World.cell?_of_block (a := ⟨ab, off + k * 2 + 1, none⟩) hbl).trans K1.out
         simp [execOp, go_sem, q0, q1]
       refine so 8 ?_
       have hc8 := Hcl.out wd (hwd ▸ hbd)
       refine wp_enter ?_ hc8 ?_
       · simp [execOp, resolve, invoke, go_sem]
       rintro e w6 ⟨At, nt, rfl, hrt, hb6⟩
       refine ⟨_, rfl, ?_⟩
       refine gS ?_ fun hS => ?_
       · exact ⟨hS.1.trans (Upd.low hb6 (fun _ => False)) (fun _ h => h.elim), fun _ => (hS.2 rfl).low hb6⟩
       refine so 9 ?_
       refine wp_value (v := .slice (some ⟨w6.heap.size, 0, none⟩) 1 1) (w' := w6.alloc (.cells #[.int .i64 t.fn, .slice At t.args.length nt] 32)) (by simp [execOp, go_sem]) ?_
       have hg8 := heap_alloc_new w6 (.cells #[.int .i64 t.fn, .slice At t.args.length nt] 32)
       have hb8 := below_box w6 (.cells #[.int .i64 t.fn, .slice At t.args.length nt] 32)
       generalize w6.alloc (.cells #[.int .i64 t.fn, .slice At t.args.length nt] 32) = w8 at hg8 hb8 ⊢
       refine gS ?_ fun hS => ?_
       · exact ⟨hS.1.trans (Upd.low hb8 (fun _ => False)) (fun _ h => h.elim), fun _ => (hS.2 rfl).low hb8⟩
       refine sl 10 ?_
       have hz6 := hb6.size
       have hz8 := hb8.size
       have hzd : wd.heap.size = wr.heap.size := by rw [hwd]
       have hown8 : OwnR w8 (fun _ => False) w4.heap.size 32 2 u (encTms ((xs.map (putU (subOf l))).take k)) := ((Hown.out.low (hwd ▸ hbd : Below wr.heap.size wr wd)).low hb6).low hb8
       refine wpList_pushR w8 rfl (.tmp 33) (.tmp 41) _ rfl termT (M := fun _ => False) (base := w4.heap.size) (v := u) (trs := encTms ((xs.map (putU (subOf l))).take k)) (by simp [go_sem]) hown8 (g := w6.heap.size) (by simp [go_sem]) hg8 rfl (by intro y hy; simp at hy; rcases hy with rfl | rfl <;> rfl) (by rw [Hlk.out]; omega) (by rw [Hlk.out]; unfold maxLen; omega) (by omega) (encTm t) (encTm_len t) ?_ ?_
       · intro j h h'
         have hj2 : j < 2 := h'
         rcases t with ⟨tf, ta⟩
         rcases (by omega : j = 0 ∨ j = 1) with rfl | rfl
         · exact .leaf _
         exact (hrt.low hb8).more fun b hb _ => ⟨.inr (by have : wd.heap.size ≤ b := hb; omega), fun e => by have := (huo _ e).2; have : wd.heap.size ≤ b := hb; omega⟩
       intro v' w9 hown' hup' hat'
       obtain ⟨Av, cv, hv', -, -⟩ := hown'.form
       have hbu9 : Box2 ob 32 (.int .i64 f) u w9 := ((hS.2 rfl)).upd hup' (fun e => by have := (huo _ e).1; omega)
       refine gL ?_ fun hS => ?_
       · exact ⟨hS.1.trans hup' (fun _ h => .inl (.inr h)), fun _ => hbu9⟩
       refine tk 11 (.pointer (some ⟨ob, 1, none⟩)) hS ?_ (fun hS => ?_) (hins := fun L w => by simp only [flag_ne (l := L) (i := 11) (k := 12) (by decide)])
       · intro w' L hn hw
         have n12 := hn.flag 12 (by kernel_rfl)
         simp [execOp, go_sem]
       refine so 12 ?_
       obtain ⟨q0, q1, q2⟩ := hbu9.cells
       have hpt := hbu9.put1 v'
       rw [hv'] at hpt ⊢
       refine wp_skip (w' := w9.setCell ⟨ob, 1, none⟩ (.slice Av (encTms ((xs.map (putU (subOf l))).take k) ++ [encTm t]).length cv)) (by simp [execOp, go_sem, q1, q2]) ?_
       have hu10 : Upd w9 (w9.setCell ⟨ob, 1, none⟩ (.slice Av (encTms ((xs.map (putU (subOf l))).take k) ++ [encTm t]).length cv)) (fun b => b = ob) := upd_set _
       rw [← hv'] at hpt hu10 ⊢
       generalize w9.setCell ⟨ob, 1, none⟩ v' = w10 at hpt hu10 ⊢
       refine gS ?_ fun hS => ?_
       · exact ⟨hS.1.trans hu10 (fun _ h => .inl (.inl h)), fun h => by cases h⟩
       refine dn ?_
       have hown10 := hown'.upd hu10 (fun b hb _ e => by
        rcases hb with hb | hb
        · exact hb
        omega)
       have hu2 : Upd w4 w10 (fun b => b = ob) := Hur.out.trans hS.1 (fun i e => by
        rcases e with e | e
        · exact .inl e
        exact .inr (huo i e).1)
       rw [← Hsn.out] at hown10
       have Hown10 := Lh hown10
       have Hu2 := Lh hu2
       have Hpt := Lh hpt
       clear hown10 hu2 hb6 hrt hpt hu10 hown' hup' hat' hv' hbu9 hg8 hb8 hS q0 q1 q2 hwd hbd
       go_wp2_with fail
       go_roundw
       case rel => exact ⟨k + 1, by omega, by go_num, v', Hpt.out, Hown10.out, Hu2.out⟩
       case measure => simp [intOf]; omega
     obtain rfl : k = xs.length := by omega
     have htk : (xs.map (putU (subOf l))).take xs.length = xs.map (putU (subOf l)) := List.take_of_length_le (by rw [List.length_map]; omega)
     rw [htk] at hown
     obtain ⟨Au, cu, hu, -, -⟩ := hown.form
     rw [encTms_len, List.length_map] at hu
     have hread := (hown.rd (by rw [encTms_len, List.length_map]; omega))
     obtain ⟨c0, c1, -⟩ := hbu.cells
     obtain ⟨m0, m1, m2⟩ := hb2r.cells
     subst hu
     have hset := hb2r.set (.int .i64 f) (.slice Au xs.length cu)
     have hr9 := hread.upd hset.2 (fun b hb _ e => by rcases hb with hb | hb; exact hb; omega)
     have hb9 : Below w.heap.size w ((wr.setCell ⟨w.heap.size + 1, 0, none⟩ (.int .i64 f)).setCell ⟨w.heap.size + 1, 1, none⟩ (.slice Au xs.length cu)) := hlowr.trans (hset.2.toLow (by have := hlowr.size; omega) (fun b e => by omega))
     have Hset := Lh hset.1
     have Hr9 := Lh hr9
     have Hb9 := Lh hb9
     have Hw9 := Lh (OwnR.base_le (hown.upd hset.2 (fun b hb _ e => by rcases hb with hb | hb; exact hb.elim; omega)) (show w.heap.size ≤ w4.heap.size by omega))
     clear hset hr9 hread hown hbu hb2r hur htk hb9 hb1r hlowr
     go_wp2_with fail
     obtain ⟨j0, j1, -⟩ := Hset.out.cells
     refine bodyPost_ret (v := .agg #[.int .i64 f, .slice Au xs.length cu]) (by simp [results, Tryz.results11, go_sem, j0, j1]) rfl ⟨Au, cu, by simp [Tm.fn, Tm.args], ?_, Hb9.out⟩
     (simpa [Tm.args] using Hr9.out.more (P' := fun b => w.heap.size ≤ b) (fun b hb _ => by rcases hb with hb | hb; exact hb.elim; omega))
 rw [putU_none xs (fun e => absurd e hf)]
 go_enter Tryz.func11, Tryz.ntmps11
 go_upto_region 1 with fail
 obtain ⟨hx1, hx2, hB2, hz2⟩ := boxes2 w (.cells #[.int .i64 f, .slice A xs.length c] 32) (.cells #[.int .i64 0, .slice none 0 0] 32)
 have hx1 : Box2 w.heap.size 32 (.int .i64 f) (.slice A xs.length c) _ := hx1
 have hx2 : Box2 (w.heap.size + 1) 32 (.int .i64 0) (.slice none 0 0) _ := hx2
 generalize (w.alloc (.cells #[.int .i64 f, .slice A xs.length c] 32)).alloc (.cells #[.int .i64 0, .slice none 0 0] 32) = w2 at hx1 hx2 hB2 hz2 ⊢
 have HX1 := Lh hx1
 have HX2 := Lh hx2
 have HB2 := Lh hB2
 obtain ⟨x10, x11, -⟩ := hx1.cells
 clear hx1 hx2 hB2
 obtain ⟨wq, hwq⟩ : ∃ wq, wq = w2 := ⟨_, rfl⟩
 rw [← hwq] at HX1 HX2 HB2 hz2 x10 x11 ⊢
 clear hwq
 have HQ1 := HX1
 have HQ2 := HX2
 have HQB := HB2
 have hzq : w.heap.size + 2 ≤ wq.heap.size := by omega
 clear HX1 HX2 HB2 hz2
 -- the out box: from the world wq, in which the boxes stand
 go_upto_region 6 with fail
 have hb7 := below_box wq (.cells #[.int .i64 f, .slice none 0 0] 32)
 have hx7 : Box2 wq.heap.size 32 (.int .i64 f) (.slice none 0 0) (wq.alloc (.cells #[.int .i64 f, .slice none 0 0] 32)) := heap_alloc_new wq _
 have hz7 : (wq.alloc (.cells #[.int .i64 f, .slice none 0 0] 32)).heap.size = wq.heap.size + 1 := by simp
 generalize wq.alloc (.cells #[.int .i64 f, .slice none 0 0] 32) = w4 at hb7 hx7 hz7 ⊢
 have H1 := Lh (HQ1.out.low hb7)
 have H2 := Lh (HQ2.out.low hb7)
 have HB4 := Lh (HQB.out.trans (hb7.mono (by omega)))
 have Hz4 := Lh (show wq.heap.size + 1 ≤ w4.heap.size by omega)
 obtain ⟨ob, hob⟩ : ∃ ob, wq.heap.size = ob := ⟨_, rfl⟩
 rw [hob] at hx7 ⊢
 have H4 := Lh hx7
 obtain ⟨x10, x11, -⟩ := H1.out.cells
 clear hb7 hx7 hz7
 go_upto_region 7 with fail
 have hz4 := Hz4.out
 go_loopw [8] (fun i wr => ∃ k : Nat, k ≤ xs.length ∧ i = .int .i64 k ∧ ∃ u, Box2 ob 32 (.int .i64 f) u wr ∧ OwnR wr (fun _ => False) w4.heap.size 32 2 u (encTms ((xs.map (putU (subOf l))).take k)) ∧ Upd w4 wr (fun b => b = ob)) (fun i _ => xs.length - (intOf i).toNat)
 case atStart => exact ⟨0, Nat.zero_le _, rfl, _, H4.out, OwnR.nil _ _ _ _ _, Upd.refl _ _⟩
 obtain ⟨k, hk, rfl, u, hbu, hown, hur⟩ := hrel
 have hzr := hur.size
 have huo := hown.lt
 have hb1r := H1.out.upd hur (by omega)
 obtain ⟨y10, y11, -⟩ := hb1r.cells
 have hb2r := H2.out.upd hur (by omega)
 have hlowr : Below w.heap.size w wr := HB4.out.trans (hur.toLow (by omega) (fun b e => by omega))
 by_cases hlt : k < xs.length
 · obtain ⟨ab, off, f', ys, A2, c2, rfl, hxk, hab, k0, k1, hrd⟩ := (H3.out.low hlowr hB).tm_at hlt
   have hs1 := sizeTs_mem hlt
   (have hl1 := lowTs_mem Hlts.out hlt; rw [hxk] at hl1)
   rw [hxk] at hs1
   simp only [sizeT] at hs1
   have hsl : k < (xs.map (putU (subOf l))).length := by rw [List.length_map]; exact hlt
   have hlk : (encTms ((xs.map (putU (subOf l))).take k)).length = k := by rw [encTms_len, List.length_take, List.length_map]; omega
   obtain ⟨t, ht⟩ : ∃ t, (putU (subOf l)) (Tm.mk f' ys) = t := ⟨_, rfl⟩
   have hgt : (xs.map (putU (subOf l)))[k] = t := by
    rw [← ht, ← hxk, List.getElem_map]
   have hsn : encTms ((xs.map (putU (subOf l))).take (k + 1)) = encTms ((xs.map (putU (subOf l))).take k) ++ [encTm t] := by
    rw [List.take_succ_eq_append_getElem hsl, encTms_map, encTms_map, List.map_append, hgt]
    rfl
   have hki : ¬ ((xs.length : Int) ≤ (k : Int)) := by omega
   have hcl := fun (w' : World) (hb : Below wr.heap.size wr w') => Hih.out f' ys _ _ _ w' (by omega) ⟨by omega, hl1⟩ (hrd.low hb (by have := hlowr.size; omega)) (HL.out.low (hlowr.trans (hb.mono hlowr.size)) hB) (by have := hlowr.size; have := hb.size; omega)
   rw [ht] at hcl
   have Hcl := Lh hcl
   have Hsn := Lh hsn
   have Hlk := Lh hlk
   have Hbu := Lh hbu
   have Hown := Lh hown
   have Hur := Lh hur
   have Hb1r := Lh hb1r
   have K0 := Lh k0
   have K1 := Lh k1
   have hlz2 := hlowr.size
   clear hxk hrd hgt hsn hlk hcl ht hbu hown hur hb1r hb2r hlowr k0 k1
   go_upto_region 9 with fail
   clear y10 y11
   refine rg 13 (fun L w' => Upd wr w' (fun b => b = ob ∨ u.ownBlock = some b) ∧ (L.getD 12 false = false → Box2 ob 32 (.int .i64 f) u w')) ?_
   intro wd hwd hbd
   refine ⟨?_, fun hS => ?_⟩
   · exact ⟨Upd.low (hwd ▸ hbd) _, fun _ => Hbu.out.low (hwd ▸ hbd)⟩
   refine tk 0 (.pointer (some ⟨ob, 1, none⟩)) hS ?_ (fun hS => ?_) (hins := fun L w => by simp only [flag_ne (l := L) (i := 0) (k := 12) (by decide)])
   · intro w' L hn hw
     have n12 := hn.flag 12 (by kernel_rfl)
     simp [execOp, go_sem]
   refine tk 1 (u) hS ?_ (fun hS => ?_) (hins := fun L w => by simp only [flag_ne (l := L) (i := 1) (k := 12) (by decide)])
   · intro w' L hn hw
     have hh := (hw.2 (hn.flag 12 (by kernel_rfl))).cells
     simp [execOp, go_sem, hh.2.1]
   refine ta 2 (.slice Al l.length cl) hS (fun hS => ?_) (hins := fun L w => by simp only [flag_ne (l := L) (i := 2) (k := 12) (by decide)])
   refine tk 3 (.pointer (some ⟨w.heap.size, 1, none⟩)) hS ?_ (fun hS => ?_) (hins := fun L w => by simp only [flag_ne (l := L) (i := 3) (k := 12) (by decide)])
   · intro w' L hn hw
     have n12 := hn.flag 12 (by kernel_rfl)
     simp [execOp, go_sem]
   refine tk 4 (.slice (some ⟨ab, off, none⟩) xs.length c) hS ?_ (fun hS => ?_) (hins := fun L w => by simp only [flag_ne (l := L) (i := 4) (k := 12) (by decide)])
   · intro w' L hn hw
     obtain ⟨q0, q1, -⟩ := (Hb1r.out.upd hw.1 (fun e => by rcases e with e | e; omega; have := (huo _ e).1; omega)).cells
     simp [execOp, go_sem, q1]
   refine ta 5 (.int .i64 (k : Nat)) hS (fun hS => ?_) (hins := fun L w => by simp only [flag_ne (l := L) (i := 5) (k := 12) (by decide)])
   refine tk 6 (.pointer (some ⟨ab, off + k * 2, none⟩)) hS ?_ (fun hS => ?_) (hins := fun L w => by simp only [flag_ne (l := L) (i := 6) (k := 12) (by decide)])
   · intro w' L hn hw
     have n12 := hn.flag 12 (by kernel_rfl)
     simp [execOp, go_sem, hlt, hki]
   refine tk 7 (.agg #[.int .i64 f', .slice A2 ys.length c2]) hS ?_ (fun hS => ?_) (hins := fun L w => by simp only [flag_ne (l := L) (i := 7) (k := 12) (by decide)])
   · intro w' L hn hw
     have hbl := hw.1.block ab (by omega) (fun e => by rcases e with e | e; omega; have := (huo _ e).1; omega)
     have q0 := (World.cell?_of_block (a := ⟨ab, off + k * 2, none⟩) hbl).trans K0.out
     have q1 := (World.cell?_of_block (a := ⟨ab, off + k * 2 + 1, none⟩) hbl).trans K1.out
     simp [execOp, go_sem, q0, q1]
   refine so 8 ?_
   have hc8 := Hcl.out wd (hwd ▸ hbd)
   refine wp_enter ?_ hc8 ?_
   · simp [execOp, resolve, invoke, go_sem]
   rintro e w6 ⟨At, nt, rfl, hrt, hb6⟩
   refine ⟨_, rfl, ?_⟩
   refine gS ?_ fun hS => ?_
   · exact ⟨hS.1.trans (Upd.low hb6 (fun _ => False)) (fun _ h => h.elim), fun _ => (hS.2 rfl).low hb6⟩
   refine so 9 ?_
   refine wp_value (v := .slice (some ⟨w6.heap.size, 0, none⟩) 1 1) (w' := w6.alloc (.cells #[.int .i64 t.fn, .slice At t.args.length nt] 32)) (by simp [execOp, go_sem]) ?_
   have hg8 := heap_alloc_new w6 (.cells #[.int .i64 t.fn, .slice At t.args.length nt] 32)
   have hb8 := below_box w6 (.cells #[.int .i64 t.fn, .slice At t.args.length nt] 32)
   generalize w6.alloc (.cells #[.int .i64 t.fn, .slice At t.args.length nt] 32) = w8 at hg8 hb8 ⊢
   refine gS ?_ fun hS => ?_
   · exact ⟨hS.1.trans (Upd.low hb8 (fun _ => False)) (fun _ h => h.elim), fun _ => (hS.2 rfl).low hb8⟩
   refine sl 10 ?_
   have hz6 := hb6.size
   have hz8 := hb8.size
   have hzd : wd.heap.size = wr.heap.size := by rw [hwd]
   have hown8 : OwnR w8 (fun _ => False) w4.heap.size 32 2 u (encTms ((xs.map (putU (subOf l))).take k)) := ((Hown.out.low (hwd ▸ hbd : Below wr.heap.size wr wd)).low hb6).low hb8
   refine wpList_pushR w8 rfl (.tmp 33) (.tmp 41) _ rfl termT (M := fun _ => False) (base := w4.heap.size) (v := u) (trs := encTms ((xs.map (putU (subOf l))).take k)) (by simp [go_sem]) hown8 (g := w6.heap.size) (by simp [go_sem]) hg8 rfl (by intro y hy; simp at hy; rcases hy with rfl | rfl <;> rfl) (by rw [Hlk.out]; omega) (by rw [Hlk.out]; unfold maxLen; omega) (by omega) (encTm t) (encTm_len t) ?_ ?_
   · intro j h h'
     have hj2 : j < 2 := h'
     rcases t with ⟨tf, ta⟩
     rcases (by omega : j = 0 ∨ j = 1) with rfl | rfl
     · exact .leaf _
     exact (hrt.low hb8).more fun b hb _ => ⟨.inr (by have : wd.heap.size ≤ b := hb; omega), fun e => by have := (huo _ e).2; have : wd.heap.size ≤ b := hb; omega⟩
   intro v' w9 hown' hup' hat'
   obtain ⟨Av, cv, hv', -, -⟩ := hown'.form
   have hbu9 : Box2 ob 32 (.int .i64 f) u w9 := ((hS.2 rfl)).upd hup' (fun e => by have := (huo _ e).1; omega)
   refine gL ?_ fun hS => ?_
   · exact ⟨hS.1.trans hup' (fun _ h => .inl (.inr h)), fun _ => hbu9⟩
   refine tk 11 (.pointer (some ⟨ob, 1, none⟩)) hS ?_ (fun hS => ?_) (hins := fun L w => by simp only [flag_ne (l := L) (i := 11) (k := 12) (by decide)])
   · intro w' L hn hw
     have n12 := hn.flag 12 (by kernel_rfl)
     simp [execOp, go_sem]
   refine so 12 ?_
   obtain ⟨q0, q1, q2⟩ := hbu9.cells
   have hpt := hbu9.put1 v'
   rw [hv'] at hpt ⊢
   refine wp_skip (w' := w9.setCell ⟨ob, 1, none⟩ (.slice Av (encTms ((xs.map (putU (subOf l))).take k) ++ [encTm t]).length cv)) (by simp [execOp, go_sem, q1, q2]) ?_
   have hu10 : Upd w9 (w9.setCell ⟨ob, 1, none⟩ (.slice Av (encTms ((xs.map (putU (subOf l))).take k) ++ [encTm t]).length cv)) (fun b => b = ob) := upd_set _
   rw [← hv'] at hpt hu10 ⊢
   generalize w9.setCell ⟨ob, 1, none⟩ v' = w10 at hpt hu10 ⊢
   refine gS ?_ fun hS => ?_
   · exact ⟨hS.1.trans hu10 (fun _ h => .inl (.inl h)), fun h => by cases h⟩
   refine dn ?_
   have hown10 := hown'.upd hu10 (fun b hb _ e => by
    rcases hb with hb | hb
    · exact hb
    omega)
   have hu2 : Upd w4 w10 (fun b => b = ob) := Hur.out.trans hS.1 (fun i e => by
    rcases e with e | e
    · exact .inl e
    exact .inr (huo i e).1)
   rw [← Hsn.out] at hown10
   have Hown10 := Lh hown10
   have Hu2 := Lh hu2
   have Hpt := Lh hpt
   clear hown10 hu2 hb6 hrt hpt hu10 hown' hup' hat' hv' hbu9 hg8 hb8 hS q0 q1 q2 hwd hbd
   go_wp2_with fail
   go_roundw
   case rel => exact ⟨k + 1, by omega, by go_num, v', Hpt.out, Hown10.out, Hu2.out⟩
   case measure => simp [intOf]; omega
 obtain rfl : k = xs.length := by omega
 have htk : (xs.map (putU (subOf l))).take xs.length = xs.map (putU (subOf l)) := List.take_of_length_le (by rw [List.length_map]; omega)
 rw [htk] at hown
 obtain ⟨Au, cu, hu, -, -⟩ := hown.form
 rw [encTms_len, List.length_map] at hu
 have hread := (hown.rd (by rw [encTms_len, List.length_map]; omega))
 obtain ⟨c0, c1, -⟩ := hbu.cells
 obtain ⟨m0, m1, m2⟩ := hb2r.cells
 subst hu
 have hset := hb2r.set (.int .i64 f) (.slice Au xs.length cu)
 have hr9 := hread.upd hset.2 (fun b hb _ e => by rcases hb with hb | hb; exact hb; omega)
 have hb9 : Below w.heap.size w ((wr.setCell ⟨w.heap.size + 1, 0, none⟩ (.int .i64 f)).setCell ⟨w.heap.size + 1, 1, none⟩ (.slice Au xs.length cu)) := hlowr.trans (hset.2.toLow (by have := hlowr.size; omega) (fun b e => by omega))
 have Hset := Lh hset.1
 have Hr9 := Lh hr9
 have Hb9 := Lh hb9
 have Hw9 := Lh (OwnR.base_le (hown.upd hset.2 (fun b hb _ e => by rcases hb with hb | hb; exact hb.elim; omega)) (show w.heap.size ≤ w4.heap.size by omega))
 clear hset hr9 hread hown hbu hb2r hur htk hb9 hb1r hlowr
 go_wp2_with fail
 obtain ⟨j0, j1, -⟩ := Hset.out.cells
 refine bodyPost_ret (v := .agg #[.int .i64 f, .slice Au xs.length cu]) (by simp [results, Tryz.results11, go_sem, j0, j1]) rfl ⟨Au, cu, by simp [Tm.fn, Tm.args], ?_, Hb9.out⟩
 (simpa [Tm.args] using Hr9.out.more (P' := fun b => w.heap.size ≤ b) (fun b hb _ => by rcases hb with hb | hb; exact hb.elim; omega))
theorem Rd.tail1 {w : World} {B ap op n c : Nat} {r : List Tr} {rows : List (List Tr)} (h : Rd w B (.sl 1 (r :: rows)) (.slice (some ⟨ap, op, none⟩) n c)) : Rd w B (.sl 1 rows) (.slice (some ⟨ap, op + 1, none⟩) rows.length (c - 1)) := by
 rcases h.sl_inv with ⟨h, _⟩ | ⟨b, off, c', us, hv, h1, h2, h3, h4, h5, h6⟩
 · cases h
 injection hv with hA hn hc
 injection hA with hA
 injection hA with hb ho _
 subst hb ho hc
 simp only [List.length_cons] at h1 h2
 refine .row 1 ap (op + 1) (c - 1) rows (fun k j => us (k + 1) j) ?_ (by omega) (by omega) (by omega) h4 ?_ ?_
 · intro r' hr'
   cases h with
   | row _ _ _ _ _ _ hl => exact hl r' (List.mem_cons_of_mem _ hr')
 · intro k j hk hj
   have := h5 (k + 1) j (by simpa using hk) hj
   rw [show op + 1 + k * 1 + j = op + (k + 1) * 1 + j by omega]
   exact this
 intro k hk j hj
 exact h6 (k + 1) (by simpa using hk) j (by simpa using hj)
def putO : Tm → List Int → Tm → Option Tm
 | _, [], u => some u
 | .mk f xs, i :: p, u => if i < 0 then none else match xs[i.toNat]? with | some x => (putO x p u).map (fun r => .mk f (xs.set i.toNat r)) | none => none
theorem GetRes.flat {r : Option Tm} {w w' : World} {e : Ending} (h : GetRes r w e w') : ∃ rf A n c, e = .returned (.tuple #[.agg #[.int .i64 rf, .slice A n c], .bool r.isSome]) ∧ Below w.heap.size w w' ∧
 ∀ t, r = some t → rf = t.fn ∧ n = t.args.length ∧ RdP w' (fun b => w.heap.size ≤ b) (.sl 2 (encTms t.args)) (.slice A n c) := by
 obtain ⟨hb, h⟩ := h
 cases r with
 | none => exact ⟨0, none, 0, 0, h, hb, by rintro t h; cases h⟩
 | some t =>
   obtain ⟨A, c, he, hr⟩ := h
   exact ⟨t.fn, A, _, c, he, hb, by rintro _ ⟨⟩; exact ⟨rfl, rfl, hr⟩⟩
theorem put02_any : ∀ (p : List Int) (f g : Int) (xs us : List Tm) (v2 vp vu : Value) (B : Nat) (w : World), Rd w B (.sl 2 (encTms xs)) v2 → Rd w B (encIs p) vp → Rd w B (.sl 2 (encTms us)) vu → B ≤ w.heap.size → sizeTs xs ≤ 2000000 → sizeTs us ≤ 2000000 →
 Calls Tryz.prog 13 #[.agg #[.int .i64 f, v2], vp, .agg #[.int .i64 g, vu]] w (GetRes (putO (.mk f xs) p (.mk g us)) w) := by
 intro p
 induction p with
 | nil =>
   intro f g xs us v2 vp vu B w hr hp hu hB hzs hzu
   obtain ⟨A, c, rfl, hc, hn, hm⟩ := hr.tm_form
   obtain ⟨Au, cu, rfl, hcu, hnu, hmu⟩ := hu.tm_form
   obtain ⟨Ap, cp, rfl, hcp, hnp, hmp⟩ := Rd.row_form hp
   have HU := Lh hu
   have hres : putO (.mk f xs) [] (.mk g us) = some (.mk g us) := by rw [putO]
   rw [hres]
   clear hr hp hu hres
   obtain ⟨hx1, hx2, hx3, hB3, hz3⟩ := boxes3 w (.cells #[.int .i64 f, .slice A xs.length c] 32) (.cells #[.int .i64 g, .slice Au us.length cu] 32) (.cells #[.int .i64 0, .slice none 0 0] 32)
   go_enter Tryz.func13, Tryz.ntmps13
   go_upto_region 1 with fail
   generalize ((w.alloc (.cells #[.int .i64 f, .slice A xs.length c] 32)).alloc (.cells #[.int .i64 g, .slice Au us.length cu] 32)).alloc (.cells #[.int .i64 0, .slice none 0 0] 32) = w3 at hx1 hx2 hx3 hB3 hz3 ⊢
   have hx2 : Box2 (w.heap.size + 1) 32 (.int .i64 g) (.slice Au us.length cu) w3 := hx2
   have hx3 : Box2 (w.heap.size + 1 + 1) 32 (.int .i64 0) (.slice none 0 0) w3 := hx3
   obtain ⟨m0, m1, m2⟩ := hx2.cells
   have hcp := copy02_out g us (.slice Au us.length cu) B w3 hzu (HU.out.low hB3 hB) (by omega)
   have Hcp := Lh hcp
   have HB3 := Lh hB3
   have Hx3 := Lh hx3
   clear hx1 hx2 hx3 hB3 hcp
   go_wp2_with fail
   refine Hcp.out.mono ?_
   rintro e w6 ⟨At, nt, rfl, hrt, hb6⟩
   have hx6 := Hx3.out.low hb6
   obtain ⟨n0, n1, n2⟩ := hx6.cells
   have hset := hx6.set (.int .i64 g) (.slice At us.length nt)
   have hr9 := hrt.upd hset.2 (fun b hb _ e => by have : w3.heap.size ≤ b := hb; omega)
   have hb9 : Below w.heap.size w ((w6.setCell ⟨w.heap.size + 1 + 1, 0, none⟩ (.int .i64 g)).setCell ⟨w.heap.size + 1 + 1, 1, none⟩ (.slice At us.length nt)) := (HB3.out.trans (hb6.mono (by omega))).trans (hset.2.toLow (by have := hb6.size; omega) (fun b e => by omega))
   have Hset := Lh hset.1
   have Hr9 := Lh hr9
   have Hb9 := Lh hb9
   clear hrt hb6 hx6 hset hr9 hb9
   go_wp2_with fail
   obtain ⟨j0, j1, -⟩ := Hset.out.cells
   refine bodyPost_ret (v := .tuple #[.agg #[.int .i64 g, .slice At us.length nt], .bool true]) (by simp [results, Tryz.results13, go_sem, j0, j1]) rfl ?_
   exact ⟨Hb9.out, At, nt, rfl, Hr9.out.more fun b hb _ => by have : w3.heap.size ≤ b := hb; show w.heap.size ≤ b; omega⟩
 | cons i p ih =>
   intro f g xs us v2 vp vu B w hr hp hu hB hzs hzu
   obtain ⟨A, c, rfl, hc, hn, hm⟩ := hr.tm_form
   obtain ⟨Au, cu, rfl, hcu, hnu, hmu⟩ := hu.tm_form
   obtain ⟨Ap, cp, rfl, hcp, hnp, hmp⟩ := Rd.row_form hp
   obtain ⟨ap, op, rfl, hap, kp⟩ := Rd.leaf_at (f := fun n : Int => Value.int .i64 n) (k := 0) hp (by simp)
   simp only [List.getElem_cons_zero, Nat.add_zero] at kp
   have hp2 : Rd w B (encIs p) (.slice (if cp = 1 then some ⟨ap, op, none⟩ else some ⟨ap, op + 1, none⟩) p.length (cp - 1)) := by
    unfold encIs at hp ⊢
    by_cases h1 : cp = 1
    · rw [if_pos h1]
      have : p = [] := List.eq_nil_of_length_eq_zero (by simp at hcp; omega)
      subst this
      subst h1
      exact .empty _ _
    rw [if_neg h1]
    have := hp.tail1
    simpa using this
   obtain ⟨tp, htp⟩ : ∃ tp, (if cp = 1 then some (⟨ap, op, none⟩ : Addr) else some ⟨ap, op + 1, none⟩) = tp := ⟨_, rfl⟩
   rw [htp] at hp2
   have Htp := Lh htp
   have HU := Lh hu
   have HR := Lh hr
   have HP2 := Lh hp2
   have Kp0 := Lh kp
   have Hih := Lh ih
   obtain ⟨r0, hr0⟩ : ∃ r0, putO (.mk f xs) (i :: p) (.mk g us) = r0 := ⟨_, rfl⟩
   rw [hr0]
   have HR0 := Lh hr0
   clear htp hr hp hu hp2 ih hr0 kp
   simp only [List.length_cons] at hcp hnp ⊢
   obtain ⟨hx1, hx2, hx3, hB3, hz3⟩ := boxes3 w (.cells #[.int .i64 f, .slice A xs.length c] 32) (.cells #[.int .i64 g, .slice Au us.length cu] 32) (.cells #[.int .i64 0, .slice none 0 0] 32)
   go_enter Tryz.func13, Tryz.ntmps13
   go_upto_region 1 with fail
   generalize ((w.alloc (.cells #[.int .i64 f, .slice A xs.length c] 32)).alloc (.cells #[.int .i64 g, .slice Au us.length cu] 32)).alloc (.cells #[.int .i64 0, .slice none 0 0] 32) = w3 at hx1 hx2 hx3 hB3 hz3 ⊢
   have hx1 : Box2 w.heap.size 32 (.int .i64 f) (.slice A xs.length c) w3 := hx1
   have hx2 : Box2 (w.heap.size + 1) 32 (.int .i64 g) (.slice Au us.length cu) w3 := hx2
   have hx3 : Box2 (w.heap.size + 1 + 1) 32 (.int .i64 0) (.slice none 0 0) w3 := hx3
   have Kp := Lh ((hB3.cell (p := ⟨ap, op, none⟩) (show ap < w.heap.size by omega)).trans Kp0.out)
   have HB3 := Lh hB3
   have Hx1 := Lh hx1
   have Hx2 := Lh hx2
   have Hx3 := Lh hx3
   clear hx1 hx2 hx3 hB3
   go_upto_region 3 with fail
   by_cases hin : 0 ≤ i ∧ i < xs.length
   · obtain ⟨hi0, hi1⟩ := hin
     obtain ⟨j, rfl⟩ : ∃ j : Nat, i = j := ⟨i.toNat, by omega⟩
     have hj : j < xs.length := by omega
     have a4 : ¬ (j : Int) < 0 := by omega
     have a13 : ¬ (xs.length : Int) ≤ (j : Int) := by omega
     have hjj := a13
     refine rg 13 (fun _ w' => Below w3.heap.size w3 w') ?_
     intro wd hwd hbd
     refine ⟨?_, fun hS => ?_⟩
     · exact hwd ▸ hbd
     refine ta 0 (.slice (some ⟨ap, op, none⟩) (p.length + 1) cp) hS fun hS => ?_
     refine ta 1 (.pointer (some ⟨ap, op, none⟩)) hS fun hS => ?_
     refine tk 2 (.int .i64 (j : Nat)) hS ?_ fun hS => ?_
     · intro w' L hn hw
       have q0 := (hw.cell (p := ⟨ap, op, none⟩) (show ap < w3.heap.size by omega)).trans Kp.out
       simp [execOp, go_sem, q0]
     refine tk 3 (.bool false) hS ?_ fun hS => ?_
     · intros; simp [execOp, go_sem, a4]
     refine ta 4 (.bool false) hS fun hS => ?_
     refine ta 5 (.slice (some ⟨ap, op, none⟩) (p.length + 1) cp) hS fun hS => ?_
     refine ta 6 (.pointer (some ⟨ap, op, none⟩)) hS fun hS => ?_
     refine tk 7 (.int .i64 (j : Nat)) hS ?_ fun hS => ?_
     · intro w' L hn hw
       have q0 := (hw.cell (p := ⟨ap, op, none⟩) (show ap < w3.heap.size by omega)).trans Kp.out
       simp [execOp, go_sem, q0]
     refine ta 8 (.pointer (some ⟨w.heap.size, 1, none⟩)) hS fun hS => ?_
     refine tk 9 (.slice A xs.length c) hS ?_ fun hS => ?_
     · intro w' L hn hw
       have o1 := (Hx1.out.low hw).cells
       simp [execOp, go_sem, o1.2.1]
     refine ta 10 (.int .i64 (xs.length : Nat)) hS fun hS => ?_
     refine tk 11 (.bool false) hS ?_ fun hS => ?_
     · intros; simp [execOp, go_sem, a13]
     refine ta 12 (.bool false) hS fun hS => ?_
     refine dn ?_
     obtain ⟨w6, hw6⟩ : ∃ w6, w6 = wd := ⟨_, rfl⟩
     rw [← hw6] at hS hwd hbd ⊢
     clear hw6
     have HS := Lh hS
     have hbz := hS.size
     clear hS hwd hbd
     obtain ⟨ab, off, f', ys, A3, c3, rfl, hxk, hab, c0, c1, hrd⟩ := HR.out.tm_at hj
     obtain ⟨r, hr⟩ : ∃ r, putO (.mk f' ys) p (.mk g us) = r := ⟨_, rfl⟩
     have hres : r0 = r.map (fun r => .mk f (xs.set j r)) := by
      rw [← HR0.out, putO, if_neg a4]
      simp only [Int.toNat_natCast]
      rw [getLast_lt hj]
      simp only [hxk, hr]
     have Hres := Lh hres
     have hzys : sizeTs ys ≤ 2000000 := by
      have := sizeTs_mem hj
      rw [hxk, sizeT] at this
      omega
     have hb63 : Below w.heap.size w w6 := HB3.out.trans (HS.out.mono (by omega))
     have hcl := fun (w' : World) (hb : Below w.heap.size w w') => Hih.out f' g ys us _ _ _ B w' (hrd.low hb hB) (HP2.out.low hb hB) (HU.out.low hb hB) (by have := hb.size; omega) hzys hzu
     rw [hr] at hcl
     have Hcl := Lh hcl
     have C0 := Lh ((hb63.cell (p := ⟨ab, off + j * 2, none⟩) (show ab < w.heap.size by omega)).trans c0)
     have C1 := Lh ((hb63.cell (p := ⟨ab, off + j * 2 + 1, none⟩) (show ab < w.heap.size by omega)).trans c1)
     have Hb6 := Lh hb63
     have HBase := HS
     have Hz6 := Lh hbz
     clear hxk hr hres hrd hb63 hcl c0 c1
     go_upto_region 5 with fail
     refine rg 17 (fun _ w' => Below w6.heap.size w6 w') ?_
     intro wd hwd hbd
     refine ⟨?_, fun hS => ?_⟩
     · exact hwd ▸ hbd
     refine ta 0 (.pointer (some ⟨w.heap.size, 1, none⟩)) hS fun hS => ?_
     refine tk 1 (.slice (some ⟨ab, off, none⟩) xs.length c) hS ?_ fun hS => ?_
     · intro w' L hn hw
       have o1 := ((Hx1.out.low HBase.out).low hw).cells
       simp [execOp, go_sem, o1.2.1]
     refine ta 2 (.slice (some ⟨ap, op, none⟩) (p.length + 1) cp) hS fun hS => ?_
     refine ta 3 (.pointer (some ⟨ap, op, none⟩)) hS fun hS => ?_
     refine tk 4 (.int .i64 (j : Nat)) hS ?_ fun hS => ?_
     · intro w' L hn hw
       have q0 := (hw.cell (p := ⟨ap, op, none⟩) (show ap < w6.heap.size by omega)).trans ((HBase.out.cell (p := ⟨ap, op, none⟩) (show ap < w3.heap.size by omega)).trans Kp.out)
       simp [execOp, go_sem, q0]
     refine tk 5 (.pointer (some ⟨ab, off + j * 2, none⟩)) hS ?_ fun hS => ?_
     · intros; simp [execOp, go_sem, hj, hjj]
     refine tk 6 (.agg #[.int .i64 f', .slice A3 ys.length c3]) hS ?_ fun hS => ?_
     · intro w' L hn hw
       have q1 := (hw.cell (p := ⟨ab, off + j * 2, none⟩) (show ab < w6.heap.size by omega)).trans C0.out
       have q2 := (hw.cell (p := ⟨ab, off + j * 2 + 1, none⟩) (show ab < w6.heap.size by omega)).trans C1.out
       simp [execOp, go_sem, q1, q2]
     refine ta 7 (.slice (some ⟨ap, op, none⟩) (p.length + 1) cp) hS fun hS => ?_
     refine tk 8 (.slice tp p.length (cp - 1)) hS ?_ fun hS => ?_
     · intro w' L hn hw
       have hle1 : (1 : Int) ≤ (p.length : Int) + 1 := by omega
       rw [← Htp.out]
       simp [execOp, hle1, go_sem]
     refine tk 9 (.agg #[.int .i64 g, .slice Au us.length cu]) hS ?_ fun hS => ?_
     · intro w' L hn hw
       have o2 := ((Hx2.out.low HBase.out).low hw).cells
       simp [execOp, go_sem, o2.1, o2.2.1]
     refine wpAnyS_all (rs := [10, 14]) (by kernel_rfl) (by simp) ?_
     intro q hq
     rcases List.mem_cons.1 hq with rfl | hq
     · refine wpOp_op (S := fun _ w' => Below w6.heap.size w6 w') 10 (o := { dst := some 41, op := Op.call { callee := Callee.value (Operand.func 13), args := #[Operand.tmp 37, Operand.tmp 39, Operand.tmp 40], argTypes := #[32, 54, 32] }, type := 52, pos := "ref.go:179", after := #[{ on := 6, ground := Ground.data }, { on := 8, ground := Ground.data }, { on := 9, ground := Ground.data }], guard := none }) (listed := #[true, true, true, true, true, true, true, true, true, true, false, false, false, false, false, false, false]) (listed' := #[true, true, true, true, true, true, true, true, true, true, true, false, false, false, false, false, false]) rfl rfl (by rfl) ?_
       have hbd4 : Below w6.heap.size w6 wd := hwd ▸ hbd
       refine wp_enter ?_ (Hcl.out wd (Hb6.out.trans (hbd4.mono (by omega)))) ?_
       · simp [execOp, resolve, invoke, go_sem]
       intro e w7 hres7
       obtain ⟨rf, Ar, nr, cr, rfl, hb7, hrr7⟩ := hres7.flat
       refine ⟨_, rfl, ?_⟩
       refine gS ?_ fun hS => ?_
       · exact hS.trans (hb7.mono hS.size)
       refine ta 11 (.tuple #[.agg #[.int .i64 rf, .slice Ar nr cr], .bool r.isSome]) hS fun hS => ?_
       refine ta 12 (.agg #[.int .i64 rf, .slice Ar nr cr]) hS fun hS => ?_
       refine ta 13 (.bool r.isSome) hS fun hS => ?_
       refine so 14 ?_
       refine wp_value (v := .pointer (some ⟨w7.heap.size, 0, none⟩)) (w' := w7.alloc (.cells #[.int .i64 0, .slice none 0 0] 32)) (by simp [execOp, go_sem]) ?_
       have hb9 := below_box w7 (.cells #[.int .i64 0, .slice none 0 0] 32)
       have hx9 : Box2 w7.heap.size 32 (.int .i64 0) (.slice none 0 0) (w7.alloc (.cells #[.int .i64 0, .slice none 0 0] 32)) := heap_alloc_new w7 _
       obtain ⟨g8, hg8⟩ : ∃ g8, w7.heap.size = g8 := ⟨_, rfl⟩
       have hz7 := hb7.size
       have hzd : wd.heap.size = w6.heap.size := by rw [hwd]
       have hgl := ltOf hx9
       have hrr9 : ∀ t, r = some t → rf = t.fn ∧ nr = t.args.length ∧ RdP (w7.alloc (.cells #[.int .i64 0, .slice none 0 0] 32)) (fun b => w6.heap.size ≤ b ∧ b ≠ g8) (.sl 2 (encTms t.args)) (.slice Ar nr cr) := fun t ht => by
        obtain ⟨e1, e2, e3⟩ := hrr7 t ht
        subst e2
        exact ⟨e1, rfl, (e3.more fun b hb hlt => (⟨by have : wd.heap.size ≤ b := hb; omega, by omega⟩ : w6.heap.size ≤ b ∧ b ≠ g8)).low hb9⟩
       rw [hg8] at hx9 hgl ⊢
       have hg6 : w6.heap.size ≤ g8 := by omega
       have hS' := hS
       generalize w7.alloc (.cells #[.int .i64 0, .slice none 0 0] 32) = w9 at hb9 hx9 hrr9 hgl ⊢
       refine gS ?_ fun hS => ?_
       · exact hS.trans (hb9.mono hS.size)
       refine so 15 ?_
       have hS9 := hS
       obtain ⟨k0, k1, k2⟩ := hx9.cells
       have hst := hx9.set (.int .i64 rf) (.slice Ar nr cr)
       refine wp_skip (w' := (w9.setCell ⟨g8, 0, none⟩ (.int .i64 rf)).setCell ⟨g8, 1, none⟩ (.slice Ar nr cr)) (by simp [execOp, go_sem, k0, k1, k2]) ?_
       have hb8 : Below w6.heap.size w6 ((w9.setCell ⟨g8, 0, none⟩ (.int .i64 rf)).setCell ⟨g8, 1, none⟩ (.slice Ar nr cr)) := hS9.trans (hst.2.toLow hS9.size (by rintro k rfl; omega))
       have hx8 := hst.1
       have hrr8 : ∀ t, r = some t → rf = t.fn ∧ nr = t.args.length ∧ RdP ((w9.setCell ⟨g8, 0, none⟩ (.int .i64 rf)).setCell ⟨g8, 1, none⟩ (.slice Ar nr cr)) (fun b => w6.heap.size ≤ b ∧ b ≠ g8) (.sl 2 (encTms t.args)) (.slice Ar nr cr) := fun t ht => by
        obtain ⟨e1, e2, e3⟩ := hrr9 t ht
        exact ⟨e1, e2, e3.upd hst.2 (fun b hb _ e => hb.2 e)⟩
       have hz8 : w6.heap.size ≤ ((w9.setCell ⟨g8, 0, none⟩ (.int .i64 rf)).setCell ⟨g8, 1, none⟩ (.slice Ar nr cr)).heap.size := hb8.size
       generalize (w9.setCell ⟨g8, 0, none⟩ (.int .i64 rf)).setCell ⟨g8, 1, none⟩ (.slice Ar nr cr) = w8 at hb8 hx8 hrr8 hz8 ⊢
       refine gS ?_ fun hS => ?_
       · exact hb8
       refine ta 16 (.bool r.isSome) hS fun hS => ?_
       refine dn ?_
       have Hx8 := Lh hx8
       have Hrr := Lh hrr8
       have Hb8 := Lh hb8
       have Hz8 := Lh hz8
       clear hx8 hrr8 hb8 hz8 hwd hbd hS hbd4
       cases r with
       | none =>
         simp only [Option.isSome_none]
         have hb9 := HBase.out.trans (Hb8.out.mono Hz6.out)
         have Hb9 := Lh hb9
         clear hb9
         have hx3 := Hx3.out.low Hb9.out
         obtain ⟨s0, s1, s2⟩ := hx3.cells
         obtain ⟨o1, o2⟩ := hx3.set (.int .i64 0) (.slice none 0 0)
         go_wp2_with fail
         obtain ⟨j0, j1, _⟩ := o1.cells
         refine bodyPost_ret (v := .tuple #[.agg #[.int .i64 0, .slice none 0 0], .bool false]) (by simp [results, Tryz.results13, go_sem, j0, j1]) rfl ?_
         rw [Hres.out]
         exact ⟨(HB3.out.trans (Hb9.out.mono (by omega))).trans (o2.toLow (by have := Hb9.out.size; omega) (by rintro k rfl; omega)), rfl⟩
       | some t =>
         simp only [Option.isSome_some]
         obtain ⟨rfl, rfl, -⟩ := Hrr.out t rfl
         have hzw6 := Hz6.out
         have hb68 := HBase.out.trans (Hb8.out.mono Hz6.out)
         have hx18 := Hx1.out.low hb68
         obtain ⟨m0, m1, -⟩ := hx18.cells
         have hcp := copy02_own (sizeTs xs + 1) f xs (.slice (some ⟨ab, off, none⟩) xs.length c) B w8 (by omega) hzs (HR.out.low (HB3.out.trans (hb68.mono (by omega))) hB) (by have := Hz8.out; omega)
         unfold CpOwn cpyT at hcp
         simp only [Tm.fn, Tm.args] at hcp
         have Hcp := Lh hcp
         have Hb68 := Lh hb68
         clear hcp hx18 hb68
         go_wp2_with fail
         refine Hcp.out.mono ?_
         rintro e w10 ⟨Ac, nc, rfl, hown, hb10⟩
         have Hown := Lh hown
         have Hb10 := Lh hb10
         have hz10 := hb10.size
         clear hown hb10
         go_upto_region 9 with fail
         have hb11 := below_box w10 (.cells #[.int .i64 f, .slice Ac xs.length nc] 32)
         have hx11 : Box2 w10.heap.size 32 (.int .i64 f) (.slice Ac xs.length nc) (w10.alloc (.cells #[.int .i64 f, .slice Ac xs.length nc] 32)) := heap_alloc_new w10 _
         have hz11 : (w10.alloc (.cells #[.int .i64 f, .slice Ac xs.length nc] 32)).heap.size = w10.heap.size + 1 := by simp
         generalize w10.alloc (.cells #[.int .i64 f, .slice Ac xs.length nc] 32) = w11 at hb11 hx11 hz11 ⊢
         have hown11 := (Hown.out.low hb11).base_le (show w6.heap.size ≤ w8.heap.size by have := Hz8.out; omega)
         obtain ⟨gA, v0, v1, rfl, hgA, hgA2, -, -, -, hfz, -, -⟩ := hown11.row2 (k := j) (by rw [encTms_len]; exact hj)
         have hgA8 := (Hown.out.lt gA rfl).1
         have hr11 := (Hrr.out t rfl).2.2.more (P' := fun b => NbP (fun _ => False) w6.heap.size b ∧ b ≠ gA) (fun b hb hlt => ⟨.inr hb.1, by omega⟩)
         have hr11 := (hr11.low Hb10.out).low hb11
         have hx811 := (Hx8.out.low Hb10.out).low hb11
         have hse : (encTms xs).set j [.leaf (.int .i64 t.fn), .sl 2 (encTms t.args)] = encTms (xs.set j t) := by
          rw [encTms_set]
          congr 1
          cases t; rfl
         have hgA10 := (Hown.out.lt gA rfl).2
         have Hse := Lh hse
         have Hr11 := Lh hr11
         have Hx11 := Lh hx11
         have Hx811 := Lh hx811
         have Hown11 := Lh hown11
         have Hb11 := Lh hb11
         have Hz11 := Lh hz11
         clear hx11 hx811 hown11 hr11 hse hb11 hfz m0 m1
         refine rg 8 (fun L w' => L.getD 7 false = false → Below w11.heap.size w11 w') ?_
         intro wd hwd hbd
         refine ⟨?_, fun hS => ?_⟩
         · exact fun _ => hwd ▸ hbd
         refine tk 0 (.pointer (some ⟨w10.heap.size, 1, none⟩)) hS ?_ (fun hS => ?_) (hins := fun L w => by simp only [flag_ne (l := L) (i := 0) (k := 7) (by decide)])
         · intro w' L hn hw
           have n7 := hn.flag 7 (by kernel_rfl)
           simp [execOp, go_sem]
         refine tk 1 (.slice (some ⟨gA, 0, none⟩) xs.length nc) hS ?_ (fun hS => ?_) (hins := fun L w => by simp only [flag_ne (l := L) (i := 1) (k := 7) (by decide)])
         · intro w' L hn hw
           have n7 := hn.flag 7 (by kernel_rfl)
           have hw := hw n7
           have o1 := (Hx11.out.low hw).cells
           simp [execOp, go_sem, o1.2.1]
         refine ta 2 (.slice (some ⟨ap, op, none⟩) (p.length + 1) cp) hS (fun hS => ?_) (hins := fun L w => by simp only [flag_ne (l := L) (i := 2) (k := 7) (by decide)])
         refine tk 3 (.pointer (some ⟨ap, op, none⟩)) hS ?_ (fun hS => ?_) (hins := fun L w => by simp only [flag_ne (l := L) (i := 3) (k := 7) (by decide)])
         · intro w' L hn hw
           have n7 := hn.flag 7 (by kernel_rfl)
           simp [execOp, go_sem]
         refine tk 4 (.int .i64 (j : Nat)) hS ?_ (fun hS => ?_) (hins := fun L w => by simp only [flag_ne (l := L) (i := 4) (k := 7) (by decide)])
         · intro w' L hn hw
           have n7 := hn.flag 7 (by kernel_rfl)
           have hw := hw n7
           have q0 := (hw.cell (p := ⟨ap, op, none⟩) (show ap < w11.heap.size by have := Hb68.out.size; have := Hz11.out; omega)).trans (((Hb11.out.cell (p := ⟨ap, op, none⟩) (show ap < w10.heap.size by have := Hb68.out.size; omega)).trans (Hb10.out.cell (p := ⟨ap, op, none⟩) (show ap < w8.heap.size by have := Hb68.out.size; omega))).trans ((Hb68.out.cell (p := ⟨ap, op, none⟩) (show ap < w3.heap.size by omega)).trans Kp.out))
           simp [execOp, go_sem, q0]
         refine tk 5 (.agg #[.int .i64 t.fn, .slice Ar t.args.length cr]) hS ?_ (fun hS => ?_) (hins := fun L w => by simp only [flag_ne (l := L) (i := 5) (k := 7) (by decide)])
         · intro w' L hn hw
           have n7 := hn.flag 7 (by kernel_rfl)
           have hw := hw n7
           have o2 := (Hx811.out.low hw).cells
           simp [execOp, go_sem, o2.1, o2.2.1]
         refine tk 6 (.pointer (some ⟨gA, j * 2, none⟩)) hS ?_ (fun hS => ?_) (hins := fun L w => by simp only [flag_ne (l := L) (i := 6) (k := 7) (by decide)])
         · intro w' L hn hw
           have n7 := hn.flag 7 (by kernel_rfl)
           simp [execOp, go_sem, hj, hjj]
         refine so 7 ?_
         have hbd11 : Below w11.heap.size w11 wd := hwd ▸ hbd
         have hown12 := Hown11.out.low hbd11
         obtain ⟨gA', u0, u1, hA', -, -, -, k0, k1, kf, -, -⟩ := hown12.row2 (k := j) (by rw [encTms_len]; exact hj)
         obtain rfl : gA = gA' := by
          injection hA' with hA'
          injection hA' with hA'
         have hst := hown12.set2 (k := j) (by rw [encTms_len]; exact hj) (.leaf (.int .i64 t.fn)) (Hr11.out.low hbd11)
         rw [Hse.out] at hst
         refine wp_skip (w' := (wd.setCell ⟨gA, j * 2, none⟩ (.int .i64 t.fn)).setCell ⟨gA, j * 2 + 1, none⟩ (.slice Ar t.args.length cr)) (by simp [execOp, go_sem, k0, k1, kf]) ?_
         have hup12 : Upd wd ((wd.setCell ⟨gA, j * 2, none⟩ (.int .i64 t.fn)).setCell ⟨gA, j * 2 + 1, none⟩ (.slice Ar t.args.length cr)) (fun k => k = gA) := (upd_set _).trans (upd_set _) (fun _ h => .inl h)
         generalize (wd.setCell ⟨gA, j * 2, none⟩ (.int .i64 t.fn)).setCell ⟨gA, j * 2 + 1, none⟩ (.slice Ar t.args.length cr) = w12 at hst hup12 ⊢
         refine gS ?_ fun hS => ?_
         · exact fun h => by cases h
         refine dn ?_
         have hz11 := Hz11.out
         have hzd : wd.heap.size = w11.heap.size := by rw [hwd]
         have hx12 := (Hx11.out.low hbd11).upd hup12 (by omega)
         have hlow : Below w8.heap.size w8 w12 := Hb10.out.trans ((Hb11.out.mono (by omega)).trans ((hbd11.mono (by omega)).trans (hup12.toLow (by omega) (by rintro k rfl; omega))))
         have hlow3 : Below w3.heap.size w3 w12 := Hb68.out.trans (hlow.mono Hb68.out.size)
         have hx3 := Hx3.out.low hlow3
         obtain ⟨s0, s1, s2⟩ := hx3.cells
         obtain ⟨t0, t1, -⟩ := hx12.cells
         have hset := hx3.set (.int .i64 f) (.slice (some ⟨gA, 0, none⟩) xs.length nc)
         have hr9 := (hst.rd (by rw [encTms_len, List.length_set]; exact hn)).upd hset.2 (fun b hb _ e => by rcases hb with hb | hb; exact hb.elim; omega)
         have hb9 : Below w.heap.size w ((w12.setCell ⟨w.heap.size + 1 + 1, 0, none⟩ (.int .i64 f)).setCell ⟨w.heap.size + 1 + 1, 1, none⟩ (.slice (some ⟨gA, 0, none⟩) xs.length nc)) := (HB3.out.trans (hlow3.mono (by omega))).trans (hset.2.toLow (by have := hlow3.size; omega) (by rintro k rfl; omega))
         have Hset := Lh hset.1
         have Hr9 := Lh hr9
         have Hb9 := Lh hb9
         clear hset hr9 hb9 hx3 hx12 hlow hlow3 hst hup12 hS hwd hbd hbd11 hown12 hA' k0 k1 kf
         go_wp2_with fail
         obtain ⟨j0, j1, -⟩ := Hset.out.cells
         refine bodyPost_ret (v := .tuple #[.agg #[.int .i64 f, .slice (some ⟨gA, 0, none⟩) xs.length nc], .bool true]) (by simp [results, Tryz.results13, go_sem, j0, j1]) rfl ?_
         rw [Hres.out]
         refine ⟨Hb9.out, some ⟨gA, 0, none⟩, nc, by simp [Tm.fn, Tm.args], ?_⟩
         simpa [Tm.args] using Hr9.out.more (P' := fun b => w.heap.size ≤ b) (fun b hb _ => by rcases hb with hb | hb; exact hb.elim; omega)
     obtain rfl := List.mem_singleton.1 hq
     refine wpOp_op (S := fun _ w' => Below w6.heap.size w6 w') 14 (o := { dst := some 8, op := Op.alloc 32, type := 0, pos := "ref.go:179", after := #[], guard := none }) (listed := #[true, true, true, true, true, true, true, true, true, true, false, false, false, false, false, false, false]) (listed' := #[true, true, true, true, true, true, true, true, true, true, false, false, false, false, true, false, false]) rfl rfl (by rfl) ?_
     have hbd4 : Below w6.heap.size w6 wd := hwd ▸ hbd
     refine wp_value (v := .pointer (some ⟨wd.heap.size, 0, none⟩)) (w' := wd.alloc (.cells #[.int .i64 0, .slice none 0 0] 32)) (by simp [execOp, go_sem]) ?_
     have hb7 := below_box wd (.cells #[.int .i64 0, .slice none 0 0] 32)
     have hx7 : Box2 wd.heap.size 32 (.int .i64 0) (.slice none 0 0) (wd.alloc (.cells #[.int .i64 0, .slice none 0 0] 32)) := heap_alloc_new wd _
     obtain ⟨g8, hg8⟩ : ∃ g8, wd.heap.size = g8 := ⟨_, rfl⟩
     have hzd : wd.heap.size = w6.heap.size := by rw [hwd]
     have hgl7 := ltOf hx7
     rw [hg8] at hx7 hgl7 ⊢
     have hg6 : w6.heap.size ≤ g8 := by omega
     generalize wd.alloc (.cells #[.int .i64 0, .slice none 0 0] 32) = w7 at hb7 hx7 hgl7 ⊢
     refine gS ?_ fun hS => ?_
     · exact hS.trans (hb7.mono hS.size)
     refine so 10 ?_
     have hb67 : Below w6.heap.size w6 w7 := hbd4.trans (hb7.mono (by omega))
     refine wp_enter ?_ (Hcl.out w7 (Hb6.out.trans (hb67.mono (by omega)))) ?_
     · simp [execOp, resolve, invoke, go_sem]
     intro e w9 hres9
     obtain ⟨rf, Ar, nr, cr, rfl, hb9, hrr7⟩ := hres9.flat
     refine ⟨_, rfl, ?_⟩
     have hz7 := hb67.size
     have hx9 := hx7.low hb9
     have hgl := ltOf hx9
     have hrr9 : ∀ t, r = some t → rf = t.fn ∧ nr = t.args.length ∧ RdP w9 (fun b => w6.heap.size ≤ b ∧ b ≠ g8) (.sl 2 (encTms t.args)) (.slice Ar nr cr) := fun t ht => by
      obtain ⟨e1, e2, e3⟩ := hrr7 t ht
      subst e2
      exact ⟨e1, rfl, e3.more fun b hb hlt => (⟨by have : w7.heap.size ≤ b := hb; omega, by have : w7.heap.size ≤ b := hb; omega⟩ : w6.heap.size ≤ b ∧ b ≠ g8)⟩
     refine gS ?_ fun hS => ?_
     · exact hS.trans (hb9.mono hS.size)
     refine ta 11 (.tuple #[.agg #[.int .i64 rf, .slice Ar nr cr], .bool r.isSome]) hS fun hS => ?_
     refine ta 12 (.agg #[.int .i64 rf, .slice Ar nr cr]) hS fun hS => ?_
     refine ta 13 (.bool r.isSome) hS fun hS => ?_
     refine so 15 ?_
     have hS9 := hS
     obtain ⟨k0, k1, k2⟩ := hx9.cells
     have hst := hx9.set (.int .i64 rf) (.slice Ar nr cr)
     refine wp_skip (w' := (w9.setCell ⟨g8, 0, none⟩ (.int .i64 rf)).setCell ⟨g8, 1, none⟩ (.slice Ar nr cr)) (by simp [execOp, go_sem, k0, k1, k2]) ?_
     have hb8 : Below w6.heap.size w6 ((w9.setCell ⟨g8, 0, none⟩ (.int .i64 rf)).setCell ⟨g8, 1, none⟩ (.slice Ar nr cr)) := hS9.trans (hst.2.toLow hS9.size (by rintro k rfl; omega))
     have hx8 := hst.1
     have hrr8 : ∀ t, r = some t → rf = t.fn ∧ nr = t.args.length ∧ RdP ((w9.setCell ⟨g8, 0, none⟩ (.int .i64 rf)).setCell ⟨g8, 1, none⟩ (.slice Ar nr cr)) (fun b => w6.heap.size ≤ b ∧ b ≠ g8) (.sl 2 (encTms t.args)) (.slice Ar nr cr) := fun t ht => by
      obtain ⟨e1, e2, e3⟩ := hrr9 t ht
      exact ⟨e1, e2, e3.upd hst.2 (fun b hb _ e => hb.2 e)⟩
     have hz8 : w6.heap.size ≤ ((w9.setCell ⟨g8, 0, none⟩ (.int .i64 rf)).setCell ⟨g8, 1, none⟩ (.slice Ar nr cr)).heap.size := hb8.size
     generalize (w9.setCell ⟨g8, 0, none⟩ (.int .i64 rf)).setCell ⟨g8, 1, none⟩ (.slice Ar nr cr) = w8 at hb8 hx8 hrr8 hz8 ⊢
     refine gS ?_ fun hS => ?_
     · exact hb8
     refine ta 16 (.bool r.isSome) hS fun hS => ?_
     refine dn ?_
     have Hx8 := Lh hx8
     have Hrr := Lh hrr8
     have Hb8 := Lh hb8
     have Hz8 := Lh hz8
     clear hx8 hrr8 hb8 hz8 hwd hbd hS hbd4
     cases r with
     | none =>
       simp only [Option.isSome_none]
       have hb9 := HBase.out.trans (Hb8.out.mono Hz6.out)
       have Hb9 := Lh hb9
       clear hb9
       have hx3 := Hx3.out.low Hb9.out
       obtain ⟨s0, s1, s2⟩ := hx3.cells
       obtain ⟨o1, o2⟩ := hx3.set (.int .i64 0) (.slice none 0 0)
       go_wp2_with fail
       obtain ⟨j0, j1, _⟩ := o1.cells
       refine bodyPost_ret (v := .tuple #[.agg #[.int .i64 0, .slice none 0 0], .bool false]) (by simp [results, Tryz.results13, go_sem, j0, j1]) rfl ?_
       rw [Hres.out]
       exact ⟨(HB3.out.trans (Hb9.out.mono (by omega))).trans (o2.toLow (by have := Hb9.out.size; omega) (by rintro k rfl; omega)), rfl⟩
     | some t =>
       simp only [Option.isSome_some]
       obtain ⟨rfl, rfl, -⟩ := Hrr.out t rfl
       have hzw6 := Hz6.out
       have hb68 := HBase.out.trans (Hb8.out.mono Hz6.out)
       have hx18 := Hx1.out.low hb68
       obtain ⟨m0, m1, -⟩ := hx18.cells
       have hcp := copy02_own (sizeTs xs + 1) f xs (.slice (some ⟨ab, off, none⟩) xs.length c) B w8 (by omega) hzs (HR.out.low (HB3.out.trans (hb68.mono (by omega))) hB) (by have := Hz8.out; omega)
       unfold CpOwn cpyT at hcp
       simp only [Tm.fn, Tm.args] at hcp
       have Hcp := Lh hcp
       have Hb68 := Lh hb68
       clear hcp hx18 hb68
       go_wp2_with fail
       refine Hcp.out.mono ?_
       rintro e w10 ⟨Ac, nc, rfl, hown, hb10⟩
       have Hown := Lh hown
       have Hb10 := Lh hb10
       have hz10 := hb10.size
       clear hown hb10
       go_upto_region 9 with fail
       have hb11 := below_box w10 (.cells #[.int .i64 f, .slice Ac xs.length nc] 32)
       have hx11 : Box2 w10.heap.size 32 (.int .i64 f) (.slice Ac xs.length nc) (w10.alloc (.cells #[.int .i64 f, .slice Ac xs.length nc] 32)) := heap_alloc_new w10 _
       have hz11 : (w10.alloc (.cells #[.int .i64 f, .slice Ac xs.length nc] 32)).heap.size = w10.heap.size + 1 := by simp
       generalize w10.alloc (.cells #[.int .i64 f, .slice Ac xs.length nc] 32) = w11 at hb11 hx11 hz11 ⊢
       have hown11 := (Hown.out.low hb11).base_le (show w6.heap.size ≤ w8.heap.size by have := Hz8.out; omega)
       obtain ⟨gA, v0, v1, rfl, hgA, hgA2, -, -, -, hfz, -, -⟩ := hown11.row2 (k := j) (by rw [encTms_len]; exact hj)
       have hgA8 := (Hown.out.lt gA rfl).1
       have hr11 := (Hrr.out t rfl).2.2.more (P' := fun b => NbP (fun _ => False) w6.heap.size b ∧ b ≠ gA) (fun b hb hlt => ⟨.inr hb.1, by omega⟩)
       have hr11 := (hr11.low Hb10.out).low hb11
       have hx811 := (Hx8.out.low Hb10.out).low hb11
       have hse : (encTms xs).set j [.leaf (.int .i64 t.fn), .sl 2 (encTms t.args)] = encTms (xs.set j t) := by
        rw [encTms_set]
        congr 1
        cases t; rfl
       have hgA10 := (Hown.out.lt gA rfl).2
       have Hse := Lh hse
       have Hr11 := Lh hr11
       have Hx11 := Lh hx11
       have Hx811 := Lh hx811
       have Hown11 := Lh hown11
       have Hb11 := Lh hb11
       have Hz11 := Lh hz11
       clear hx11 hx811 hown11 hr11 hse hb11 hfz m0 m1
       refine rg 8 (fun L w' => L.getD 7 false = false → Below w11.heap.size w11 w') ?_
       intro wd hwd hbd
       refine ⟨?_, fun hS => ?_⟩
       · exact fun _ => hwd ▸ hbd
       refine tk 0 (.pointer (some ⟨w10.heap.size, 1, none⟩)) hS ?_ (fun hS => ?_) (hins := fun L w => by simp only [flag_ne (l := L) (i := 0) (k := 7) (by decide)])
       · intro w' L hn hw
         have n7 := hn.flag 7 (by kernel_rfl)
         simp [execOp, go_sem]
       refine tk 1 (.slice (some ⟨gA, 0, none⟩) xs.length nc) hS ?_ (fun hS => ?_) (hins := fun L w => by simp only [flag_ne (l := L) (i := 1) (k := 7) (by decide)])
       · intro w' L hn hw
         have n7 := hn.flag 7 (by kernel_rfl)
         have hw := hw n7
         have o1 := (Hx11.out.low hw).cells
         simp [execOp, go_sem, o1.2.1]
       refine ta 2 (.slice (some ⟨ap, op, none⟩) (p.length + 1) cp) hS (fun hS => ?_) (hins := fun L w => by simp only [flag_ne (l := L) (i := 2) (k := 7) (by decide)])
       refine tk 3 (.pointer (some ⟨ap, op, none⟩)) hS ?_ (fun hS => ?_) (hins := fun L w => by simp only [flag_ne (l := L) (i := 3) (k := 7) (by decide)])
       · intro w' L hn hw
         have n7 := hn.flag 7 (by kernel_rfl)
         simp [execOp, go_sem]
       refine tk 4 (.int .i64 (j : Nat)) hS ?_ (fun hS => ?_) (hins := fun L w => by simp only [flag_ne (l := L) (i := 4) (k := 7) (by decide)])
       · intro w' L hn hw
         have n7 := hn.flag 7 (by kernel_rfl)
         have hw := hw n7
         have q0 := (hw.cell (p := ⟨ap, op, none⟩) (show ap < w11.heap.size by have := Hb68.out.size; have := Hz11.out; omega)).trans (((Hb11.out.cell (p := ⟨ap, op, none⟩) (show ap < w10.heap.size by have := Hb68.out.size; omega)).trans (Hb10.out.cell (p := ⟨ap, op, none⟩) (show ap < w8.heap.size by have := Hb68.out.size; omega))).trans ((Hb68.out.cell (p := ⟨ap, op, none⟩) (show ap < w3.heap.size by omega)).trans Kp.out))
         simp [execOp, go_sem, q0]
       refine tk 5 (.agg #[.int .i64 t.fn, .slice Ar t.args.length cr]) hS ?_ (fun hS => ?_) (hins := fun L w => by simp only [flag_ne (l := L) (i := 5) (k := 7) (by decide)])
       · intro w' L hn hw
         have n7 := hn.flag 7 (by kernel_rfl)
         have hw := hw n7
         have o2 := (Hx811.out.low hw).cells
         simp [execOp, go_sem, o2.1, o2.2.1]
       refine tk 6 (.pointer (some ⟨gA, j * 2, none⟩)) hS ?_ (fun hS => ?_) (hins := fun L w => by simp only [flag_ne (l := L) (i := 6) (k := 7) (by decide)])
       · intro w' L hn hw
         have n7 := hn.flag 7 (by kernel_rfl)
         simp [execOp, go_sem, hj, hjj]
       refine so 7 ?_
       have hbd11 : Below w11.heap.size w11 wd := hwd ▸ hbd
       have hown12 := Hown11.out.low hbd11
       obtain ⟨gA', u0, u1, hA', -, -, -, k0, k1, kf, -, -⟩ := hown12.row2 (k := j) (by rw [encTms_len]; exact hj)
       obtain rfl : gA = gA' := by
        injection hA' with hA'
        injection hA' with hA'
       have hst := hown12.set2 (k := j) (by rw [encTms_len]; exact hj) (.leaf (.int .i64 t.fn)) (Hr11.out.low hbd11)
       rw [Hse.out] at hst
       refine wp_skip (w' := (wd.setCell ⟨gA, j * 2, none⟩ (.int .i64 t.fn)).setCell ⟨gA, j * 2 + 1, none⟩ (.slice Ar t.args.length cr)) (by simp [execOp, go_sem, k0, k1, kf]) ?_
       have hup12 : Upd wd ((wd.setCell ⟨gA, j * 2, none⟩ (.int .i64 t.fn)).setCell ⟨gA, j * 2 + 1, none⟩ (.slice Ar t.args.length cr)) (fun k => k = gA) := (upd_set _).trans (upd_set _) (fun _ h => .inl h)
       generalize (wd.setCell ⟨gA, j * 2, none⟩ (.int .i64 t.fn)).setCell ⟨gA, j * 2 + 1, none⟩ (.slice Ar t.args.length cr) = w12 at hst hup12 ⊢
       refine gS ?_ fun hS => ?_
       · exact fun h => by cases h
       refine dn ?_
       have hz11 := Hz11.out
       have hzd : wd.heap.size = w11.heap.size := by rw [hwd]
       have hx12 := (Hx11.out.low hbd11).upd hup12 (by omega)
       have hlow : Below w8.heap.size w8 w12 := Hb10.out.trans ((Hb11.out.mono (by omega)).trans ((hbd11.mono (by omega)).trans (hup12.toLow (by omega) (by rintro k rfl; omega))))
       have hlow3 : Below w3.heap.size w3 w12 := Hb68.out.trans (hlow.mono Hb68.out.size)
       have hx3 := Hx3.out.low hlow3
       obtain ⟨s0, s1, s2⟩ := hx3.cells
       obtain ⟨t0, t1, -⟩ := hx12.cells
       have hset := hx3.set (.int .i64 f) (.slice (some ⟨gA, 0, none⟩) xs.length nc)
       have hr9 := (hst.rd (by rw [encTms_len, List.length_set]; exact hn)).upd hset.2 (fun b hb _ e => by rcases hb with hb | hb; exact hb.elim; omega)
       have hb9 : Below w.heap.size w ((w12.setCell ⟨w.heap.size + 1 + 1, 0, none⟩ (.int .i64 f)).setCell ⟨w.heap.size + 1 + 1, 1, none⟩ (.slice (some ⟨gA, 0, none⟩) xs.length nc)) := (HB3.out.trans (hlow3.mono (by omega))).trans (hset.2.toLow (by have := hlow3.size; omega) (by rintro k rfl; omega))
       have Hset := Lh hset.1
       have Hr9 := Lh hr9
       have Hb9 := Lh hb9
       clear hset hr9 hb9 hx3 hx12 hlow hlow3 hst hup12 hS hwd hbd hbd11 hown12 hA' k0 k1 kf
       go_wp2_with fail
       obtain ⟨j0, j1, -⟩ := Hset.out.cells
       refine bodyPost_ret (v := .tuple #[.agg #[.int .i64 f, .slice (some ⟨gA, 0, none⟩) xs.length nc], .bool true]) (by simp [results, Tryz.results13, go_sem, j0, j1]) rfl ?_
       rw [Hres.out]
       refine ⟨Hb9.out, some ⟨gA, 0, none⟩, nc, by simp [Tm.fn, Tm.args], ?_⟩
       simpa [Tm.args] using Hr9.out.more (P' := fun b => w.heap.size ≤ b) (fun b hb _ => by rcases hb with hb | hb; exact hb.elim; omega)
   have hno : r0 = none := by
    rw [← HR0.out, putO]
    by_cases hi : i < 0
    · rw [if_pos hi]
    rw [if_neg hi, List.getElem?_eq_none (by omega)]
   have Hno := Lh hno
   clear hno
   by_cases hi0 : i < 0
   · have a4 := hi0
     have a13 := hi0
     refine rg 13 (fun _ w' => Below w3.heap.size w3 w') ?_
     intro wd hwd hbd
     refine ⟨?_, fun hS => ?_⟩
     · exact hwd ▸ hbd
     refine ta 0 (.slice (some ⟨ap, op, none⟩) (p.length + 1) cp) hS fun hS => ?_
     refine ta 1 (.pointer (some ⟨ap, op, none⟩)) hS fun hS => ?_
     refine tk 2 (.int .i64 i) hS ?_ fun hS => ?_
     · intro w' L hn hw
       have q0 := (hw.cell (p := ⟨ap, op, none⟩) (show ap < w3.heap.size by omega)).trans Kp.out
       simp [execOp, go_sem, q0]
     refine tk 3 (.bool true) hS ?_ fun hS => ?_
     · intros; simp [execOp, go_sem, a4]
     refine ta 4 (.bool true) hS fun hS => ?_
     refine sk 5 hS fun hS => ?_
     refine sk 6 hS fun hS => ?_
     refine sk 7 hS fun hS => ?_
     refine sk 8 hS fun hS => ?_
     refine sk 9 hS fun hS => ?_
     refine sk 10 hS fun hS => ?_
     refine sk 11 hS fun hS => ?_
     refine ta 12 (.bool true) hS fun hS => ?_
     refine dn ?_
     obtain ⟨w6, hw6⟩ : ∃ w6, w6 = wd := ⟨_, rfl⟩
     rw [← hw6] at hS hwd hbd ⊢
     clear hw6
     have HS := Lh hS
     have hbz := hS.size
     clear hS hwd hbd
     obtain ⟨n0, n1, n2⟩ := (Hx3.out.low HS.out).cells
     obtain ⟨s1, s2⟩ := (Hx3.out.low HS.out).set (.int .i64 0) (.slice none 0 0)
     go_wp2_with fail
     obtain ⟨j0, j1, _⟩ := s1.cells
     refine bodyPost_ret (v := .tuple #[.agg #[.int .i64 0, .slice none 0 0], .bool false]) (by simp [results, Tryz.results13, go_sem, j0, j1]) rfl ?_
     rw [Hno.out]
     exact ⟨(HB3.out.trans (HS.out.mono (by omega))).trans (s2.toLow (by omega) (by rintro k rfl; omega)), rfl⟩
   have a4 := hi0
   have a13 : (xs.length : Int) ≤ i := by omega
   refine rg 13 (fun _ w' => Below w3.heap.size w3 w') ?_
   intro wd hwd hbd
   refine ⟨?_, fun hS => ?_⟩
   · exact hwd ▸ hbd
   refine ta 0 (.slice (some ⟨ap, op, none⟩) (p.length + 1) cp) hS fun hS => ?_
   refine ta 1 (.pointer (some ⟨ap, op, none⟩)) hS fun hS => ?_
   refine tk 2 (.int .i64 i) hS ?_ fun hS => ?_
   · intro w' L hn hw
     have q0 := (hw.cell (p := ⟨ap, op, none⟩) (show ap < w3.heap.size by omega)).trans Kp.out
     simp [execOp, go_sem, q0]
   refine tk 3 (.bool false) hS ?_ fun hS => ?_
   · intros; simp [execOp, go_sem, a4]
   refine ta 4 (.bool false) hS fun hS => ?_
   refine ta 5 (.slice (some ⟨ap, op, none⟩) (p.length + 1) cp) hS fun hS => ?_
   refine ta 6 (.pointer (some ⟨ap, op, none⟩)) hS fun hS => ?_
   refine tk 7 (.int .i64 i) hS ?_ fun hS => ?_
   · intro w' L hn hw
     have q0 := (hw.cell (p := ⟨ap, op, none⟩) (show ap < w3.heap.size by omega)).trans Kp.out
     simp [execOp, go_sem, q0]
   refine ta 8 (.pointer (some ⟨w.heap.size, 1, none⟩)) hS fun hS => ?_
   refine tk 9 (.slice A xs.length c) hS ?_ fun hS => ?_
   · intro w' L hn hw
     have o1 := (Hx1.out.low hw).cells
     simp [execOp, go_sem, o1.2.1]
   refine ta 10 (.int .i64 (xs.length : Nat)) hS fun hS => ?_
   refine tk 11 (.bool true) hS ?_ fun hS => ?_
   · intros; simp [execOp, go_sem, a13]
   refine ta 12 (.bool true) hS fun hS => ?_
   refine dn ?_
   obtain ⟨w6, hw6⟩ : ∃ w6, w6 = wd := ⟨_, rfl⟩
   rw [← hw6] at hS hwd hbd ⊢
   clear hw6
   have HS := Lh hS
   have hbz := hS.size
   clear hS hwd hbd
   obtain ⟨n0, n1, n2⟩ := (Hx3.out.low HS.out).cells
   obtain ⟨s1, s2⟩ := (Hx3.out.low HS.out).set (.int .i64 0) (.slice none 0 0)
   go_wp2_with fail
   obtain ⟨j0, j1, _⟩ := s1.cells
   refine bodyPost_ret (v := .tuple #[.agg #[.int .i64 0, .slice none 0 0], .bool false]) (by simp [results, Tryz.results13, go_sem, j0, j1]) rfl ?_
   rw [Hno.out]
   exact ⟨(HB3.out.trans (HS.out.mono (by omega))).trans (s2.toLow (by omega) (by rintro k rfl; omega)), rfl⟩
end Go.Proofs.YtbkpkahhdlomiaaGreat
