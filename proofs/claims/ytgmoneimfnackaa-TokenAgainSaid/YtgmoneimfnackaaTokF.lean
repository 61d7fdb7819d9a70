/-
  Walks over token.All, token.Cut.
-/
import Derived.Test.YtgmoneimfnackaaTokE
namespace Go.Proofs.Ytgmoneimfnackaa
open Go.RowKit

theorem Upd.putObj {a b : World} {F : Nat → Prop} (h : Upd a b F) (l : Nat) (o : Obj) (hl : F l ∨ a.heap.size ≤ l) : Upd a (b.putObj l o) F :=
  ⟨h.os, h.tape, h.output, by rw [World.putObj_size]; exact h.size, fun k hk hf => (World.putObj_heap_other (fun e => by subst e; rcases hl with h1 | h1; exact hf h1; omega)).trans (h.block k hk hf)⟩

section
variable {F : Fence} {n : Nat} {P : Program} (w : World)
/-- append of ONE element, whose cells lie in a block of their own, inside a fence. -/
theorem wpListIn_push {ops : Array Oper} {rest : List Oper} {o : Oper} {a : Act} {Q : Exit → Act → World → Prop} (hgd : o.guard = none) (s x : Operand) (t : TypeId)
    (ho : o.op = .call { callee := .builtin .append, args := #[s, x], argTypes := #[t, t] })
    {e : TypeId} {size bytes : Nat} (hT : SliceTy P t e size bytes)
    {base : Nat} {v : Value} {rows : List (List Value)} (hs : a.eval s = v) (hown : Own w base e size v rows)
    {g : Nat} {cells : Array Value} {te : TypeId} (hx : a.eval x = .slice (some ⟨g, 0, none⟩) 1 1) (hg : w.heap[g]? = some (.cells cells te (0, 0))) (hcs : cells.size = size) (h1 : ∀ u ∈ cells.toList, u.oneCell' = true)
    (hbytes : (rows.length + 1) * bytes ≤ 140737488355328) (h63 : rows.length + 1 ≤ maxLen) (hbase : base ≤ w.heap.size)
    (h : ∀ v' w', Own w' base e size v' (rows ++ [cells.toList]) → Upd w w' (fun k => v.ownBlock = some k) → wpListIn F n P ops Q rest (a.put o.dst v') w') :
    wpListIn F n P ops Q (o :: rest) a w := by
  obtain ⟨i, z, hi, hz, hsize, hby, hzs⟩ := hT.hi
  refine wpListIn_append_own (P := P) w hgd s x t ho base e i z size bytes hT.ht hi hz hsize hby hzs hT.hs v rows.length rows.flatten hs hown.1 ⟨g, 0, none⟩ 1 1 cells.toList hx
    (by rw [Nat.one_mul, Array.length_toList]; exact hcs) ?_ h1 h63 hbytes hbase ?_
  · intro j u hu
    have hadd : (⟨g, 0, none⟩ : Addr).add j = ⟨g, j, none⟩ := by unfold Addr.add; split <;> simp_all
    rw [hadd, cell_of_row w g j cells te (0, 0) hg, ← Array.getElem?_toList]
    exact hu
  · intro v' w' hown' hgr _
    refine h v' w' ⟨?_, ?_⟩ (Upd.grown hgr)
    · rw [List.length_append, List.flatten_append]
      simpa using hown'
    · intro r hr
      rcases List.mem_append.1 hr with h | h
      · exact hown.2 r h
      · rw [List.mem_singleton.1 h, Array.length_toList]; exact hcs
end

theorem tokT : SliceTy Try.prog 22 35 3 32 := sliceTy Try.underlying22 (by kernel_rfl : (Try.prog.info? 35).map (fun i => (i.zero, i.size, i.bytes)) = some (some (.agg #[.int .i64 0, .string ⟨#[]⟩, .int .i64 0]), 3, 32)) rfl (by decide)

/-- What All hands back. -/
def AllRes (s : ByteArray) (w : World) (e : Ending) (w' : World) : Prop :=
  ∃ v L a er, e = .returned (.tuple #[v, .int .i64 (a : Nat), .int .i64 (er : Nat)]) ∧ Own w' w.heap.size 35 3 v (L.map tkRow) ∧ Below w.heap.size w w' ∧
    (((lex s 0).2 = none ∧ L = (lex s 0).1 ∧ a = 0 ∧ er = 0) ∨ ((lex s 0).2 = some (a, er) ∧ L = []))

set_option maxRecDepth 100000 in
set_option maxHeartbeats 4000000 in
theorem all_any (s : ByteArray) (m : Int) (w : World) (hs : s.size ≤ 1000000) (hm : w.cell? ⟨0, 0, none⟩ = some (.int .i64 m)) :
    Calls Try.prog 16 #[.string s] w (AllRes s w) := by
  have hz := World.block_lt_of_cell? w _ hm
  have Hm := Lib.hid hm
  clear hm
  refine (callsIn_wide (n := 5)).1 (callsIn_of_wp_marks Try.func16 rfl trivial (wpIn_wide.2 ?_))
  simp only [Try.ntmps16, List.size_toArray, List.length_cons, List.length_nil, Nat.reduceAdd, Nat.reduceSub, Array.replicate_succ, Array.replicate_zero, List.push_toArray, List.append_toArray, List.nil_append, List.cons_append]
  go_wp2_with fail
  refine wpIn_wide.1 (wpIn_rangeFunc (F := Fence.wide) (n := 5) ?_)
  intro fn _
  obtain ⟨W0, hW0⟩ : ∃ W0, (w.alloc (.cells #[.slice none 0 0] 22)).alloc (.cells #[.string s, .int .i64 0, .int .i64 0] 41) = W0 := ⟨_, rfl⟩
  rw [hW0]
  generalize hrec : ({ state := .ready, pending := none, fn := fn, tmps := _, params := #[12], assign := _, body := _, defers := W0.heap.size } : Loop) = rec0
  refine ⟨W0.heap.size + 1, [{ target := .collected W0.heap.size, args := #[] }], (W0.alloc (.deferred (some []))).alloc (.loop rec0), { target := .fn (.func 22) #[], args := #[.pointer (some ⟨w.heap.size + 1, 0, none⟩), .func (.yield (W0.heap.size + 1)) #[] #[]] }, (W0.alloc (.deferred (some []))).alloc (.loop rec0), 22,
    #[.pointer (some ⟨w.heap.size + 1, 0, none⟩), .func (.yield (W0.heap.size + 1)) #[] #[]], (W0.alloc (.deferred (some []))).alloc (.loop rec0), ?_, ?_, ?_, ?_, ?_, ?_⟩
  · rw [← hrec]; exact run_enterLoop_outer _ _ _ _ _
  · simp [resolve, go_sem]
  · intro f' hf'; trivial
  · simp [invoke, go_sem]
  · intro _; omega
  have hsz0 : W0.heap.size = w.heap.size + 2 := by rw [← hW0]; simp
  have Hsz0 := Lib.hid hsz0
  clear hsz0
  have hY : TkYield (W0.heap.size + 1) w.heap.size (W0.heap.size + 2) rec0 := by
    clear hW0 hz Hm
    have r1 := congrArg Loop.tmps hrec
    have r2 := congrArg Loop.params hrec
    have r3 := congrArg Loop.assign hrec
    have r4 := congrArg Loop.body hrec
    have r5 : rec0.state = .ready := by rw [← hrec]
    have r6 : { { rec0 with state := .busy } with state := .ready, pending := none } = rec0 := by rw [← hrec]
    have R6 := Lib.hid r6
    simp only [] at r1 r2 r3 r4
    clear hrec r6
    intro t L v W hL hrb hown hlen hbs
    have hy := run_yield (P := Try.prog) (args := #[tkV t]) hL (by rw [← r2]; rfl)
    rw [← r1, ← r2, ← r3, ← r4] at hy
    simp at hy
    refine ⟨_, _, _, _, hy, roundIn_of_wpIn (F := Fence.wide) trivial ?_⟩
    clear hy r1 r2 r3 r4
    have hl := ltOf hL
    have hlr := ltOf hrb
    obtain ⟨WA, hWA⟩ : ∃ WA, W.alloc (.cells #[.int .i64 t.kind, .string t.text, .int .i64 t.pos] 35) = WA := ⟨_, rfl⟩
    have hbA : Below W.heap.size W WA := by rw [← hWA]; exact below_box W _
    have htA : WA.heap[W.heap.size]? = some (.cells #[.int .i64 t.kind, .string t.text, .int .i64 t.pos] 35 (0, 0)) := by rw [← hWA]; exact heap_alloc_new W _
    have hzA : WA.heap.size = W.heap.size + 1 := by rw [← hWA]; simp
    have hLA := (hbA.block _ hl).trans hL
    have hbr := run_beginRound (P := Try.prog) hLA r5
    have hL2 := World.putObj_heap_same (w := WA) (o := .loop { rec0 with state := .busy }) (ltOf hLA)
    have hU2 : Upd W (WA.putObj (W0.heap.size + 1) (.loop { rec0 with state := .busy })) (fun k => k = W0.heap.size + 1) := (Upd.low hbA _).putObj _ _ (.inl rfl)
    have hrb2 := (hU2.block w.heap.size hlr (by have := Hsz0.out; omega)).trans hrb
    have ht2 := (World.putObj_heap_other (w := WA) (r := W0.heap.size + 1) (o := .loop { rec0 with state := .busy }) (k := W.heap.size) (by omega)).trans htA
    have hown2 := hown.upd hU2 (by
      intro g hg e
      have := (hown.lt g hg).1
      omega)
    have hz2 : (WA.putObj (W0.heap.size + 1) (.loop { rec0 with state := .busy })).heap.size = W.heap.size + 1 := by rw [World.putObj_size, hzA]
    generalize WA.putObj (W0.heap.size + 1) (.loop { rec0 with state := .busy }) = W2 at hbr hL2 hrb2 hU2 hown2 ht2 hz2
    obtain ⟨c1, c3⟩ := box1 hrb2
    obtain ⟨t1, t2, t3, t4⟩ := box3 ht2
    have HL2 := Lib.hid hL2
    have HU2 := Lib.hid hU2
    have Hrb2 := Lib.hid hrb2
    have Hown2 := Lib.hid hown2
    have hbs2 : W0.heap.size + 2 ≤ W2.heap.size := Nat.le_trans hbs hU2.size
    have hlr2 := ltOf hrb2
    have hlt2 := ltOf ht2
    have Hz2 := Lib.hid hz2
    clear hz2
    clear hL hrb hL2 hrb2 hU2 r5 hown hown2 hbA htA hzA hLA ht2
    simp only [tkV]
    gi_wp2_with (first
      | (gi_at_builtin
         go_loud (refine wpListIn_push _ rfl (.tmp 13) (.tmp 15) _ rfl tokT (base := W0.heap.size + 2) (rows := L.map tkRow) rfl (by exact Hown2.out.alloc _) (g := W2.heap.size) (cells := #[.int .i64 t.kind, .string t.text, .int .i64 t.pos]) rfl (heap_alloc_new W2 _) rfl (by simp [Value.oneCell']) (by rw [List.length_map]; omega) (by rw [List.length_map]; unfold maxLen; omega) (by simp; omega) ?_)
         intro v4 w4 hown4 hup4
         obtain ⟨A4, c4, hv4, _, _⟩ := hown4.form
         subst hv4
         have hu4 : Upd W2 w4 (fun k => v.ownBlock = some k) := (Upd.low (below_box W2 _) _).trans hup4 (fun i hi => .inl hi)
         have hvn : ∀ k, k < W0.heap.size + 2 → ¬ v.ownBlock = some k := fun k hk e => by have := (Hown2.out.lt k e).1; omega
         have hrb4 := (hu4.block w.heap.size hlr2 (hvn _ (by have := Hsz0.out; omega))).trans Hrb2.out
         have hL4 := (hu4.block (W0.heap.size + 1) (ltOf HL2.out) (hvn _ (by omega))).trans HL2.out
         obtain ⟨d1, d2⟩ := box1 hrb4
         have Hu4 := Lib.hid hu4
         have Hown4 := Lib.hid hown4
         have Hrb4 := Lib.hid hrb4
         have HL4 := Lib.hid hL4
         clear hu4 hown4 hup4 hvn hrb4 hL4)
      | (rw [Oper.semAt_eq _ _ _ (fun c h => by cases h)]
         go_simp
         try go_bits))
    have hs5 : Upd w4 (w4.setCell ⟨w.heap.size, 0, none⟩ (.slice A4 (L.length + 1) c4)) (fun k => k = w.heap.size) := (Upd.refl _ _).setCell _ _ (.inl rfl)
    have hL5 := (hs5.block (W0.heap.size + 1) (ltOf HL4.out) (by have := Hsz0.out; omega)).trans HL4.out
    have hrb5 := heap_setCell_same w4 w.heap.size 0 _ _ (.slice A4 (L.length + 1) c4) Hrb4.out
    have hown5 : Own (w4.setCell ⟨w.heap.size, 0, none⟩ (.slice A4 (L.length + 1) c4)) (W0.heap.size + 2) 35 3 (.slice A4 (L.length + 1) c4) (List.map tkRow L ++ [tkRow t]) := by
      have h4 : Own w4 (W0.heap.size + 2) 35 3 (.slice A4 (L.length + 1) c4) (List.map tkRow L ++ [tkRow t]) := by
        have := Hown4.out
        simpa [tkRow] using this
      exact h4.upd hs5 (fun g hg e => by have := (h4.lt g hg).1; have := Hsz0.out; omega)
    have hU5 : Upd W (w4.setCell ⟨w.heap.size, 0, none⟩ (.slice A4 (L.length + 1) c4)) (fun k => k = w.heap.size ∨ k = W0.heap.size + 1 ∨ v.ownBlock = some k) :=
      ((HU2.out.more (fun i hi => .inl (.inr (.inl hi)))).trans Hu4.out (fun i hi => .inl (.inr (.inr hi)))).trans hs5 (fun i hi => .inl (.inl hi))
    have hz5 := ltOf hL5
    refine ⟨_, _, run_endRound none hL5, rfl, hU5.putObj _ _ (.inl (.inr (.inl rfl))), ⟨_, (World.putObj_heap_other (by have := Hsz0.out; omega)).trans (hrb5.trans (by simp)), hown5.upd ((Upd.refl _ (fun k => k = W0.heap.size + 1)).putObj _ _ (.inl rfl)) (fun g hg e => by have := (hown5.lt g hg).1; omega)⟩, (World.putObj_heap_same hz5).trans (congrArg (fun r => some (Obj.loop r)) R6.out)⟩
  have hsz0 := Hsz0.out
  have hb1 : Below w.heap.size w ((W0.alloc (.deferred (some []))).alloc (.loop rec0)) := by
    have := ((((below_box w (.cells #[.slice none 0 0] 22)).alloc (by simp) (.cells #[.string s, .int .i64 0, .int .i64 0] 41)).alloc (by simp; omega) (.deferred (some []))).alloc (by simp; omega) (.loop rec0))
    rw [hW0] at this
    exact this
  have hb0 : Below W0.heap.size W0 ((W0.alloc (.deferred (some []))).alloc (.loop rec0)) := (below_box W0 _).alloc (by simp) _
  have hrb0 : W0.heap[w.heap.size]? = some (.cells #[.slice none 0 0] 22 (0, 0)) := by rw [← hW0, alloc_get, if_neg (by simp), alloc_get, if_pos rfl]
  have hcb0 : W0.heap[w.heap.size + 1]? = some (.cells #[.string s, .int .i64 0, .int .i64 0] 41 (0, 0)) := by rw [← hW0, alloc_get, if_pos (by simp)]
  have hl0 : ((W0.alloc (.deferred (some []))).alloc (.loop rec0)).heap[W0.heap.size + 1]? = some (.loop rec0) := by
    have := heap_alloc_new (W0.alloc (.deferred (some []))) (.loop rec0)
    rw [World.size_alloc] at this
    exact this
  have hk0 : ((W0.alloc (.deferred (some []))).alloc (.loop rec0)).heap[W0.heap.size]? = some (.deferred (some [])) := ((below_box (W0.alloc (.deferred (some []))) _).block _ (by simp)).trans (heap_alloc_new W0 _)
  have hzW : ((W0.alloc (.deferred (some []))).alloc (.loop rec0)).heap.size = W0.heap.size + 2 := by simp
  have Hb1 := Lib.hid hb1
  have Hk0 := Lib.hid hk0
  have HzW := Lib.hid hzW
  rw [← hzW] at hY
  have hst : EcSt ((W0.alloc (.deferred (some []))).alloc (.loop rec0)) ((W0.alloc (.deferred (some []))).alloc (.loop rec0)) m s (w.heap.size + 1) w.heap.size (W0.heap.size + 1) 0 0 [] rec0 :=
    ⟨cell_later hb1 Hm.out, (hb0.block _ (by omega)).trans hcb0, ⟨_, (hb0.block _ (by omega)).trans hrb0, Own.nil _ _ _ _⟩, hl0, Upd.refl _ _⟩
  generalize (W0.alloc (.deferred (some []))).alloc (.loop rec0) = WS at hY hst Hb1 Hk0 HzW
  clear hb1 hb0 hrb0 hcb0 hl0 hk0 hzW
  refine callsIn_wide.2 ((each_any s m (w.heap.size + 1) w.heap.size (W0.heap.size + 1) rec0 WS hs (by omega) hz (by omega) (by omega) hst hY).mono ?_)
  clear hY hst
  rintro e W2 ⟨rfl, i, er, L, hst, hcase⟩
  have r5 : rec0.state = .ready := by rw [← hrec]
  have r6 : rec0.pending = none := by rw [← hrec]
  have hend := run_endLoop (P := Try.prog) hst.fl (by rw [r5]; decide)
  obtain ⟨v, hrv, hown⟩ := hst.fr
  have hu3 : Upd W2 (W2.putObj (W0.heap.size + 1) (.loop { rec0 with state := .exhausted })) (fun k => k = W0.heap.size + 1) := (Upd.refl W2 _).putObj _ _ (.inl rfl)
  have hcb3 := (hu3.block (w.heap.size + 1) (ltOf hst.fc) (by omega)).trans hst.fc
  have hrb3 := (hu3.block w.heap.size (ltOf hrv) (by omega)).trans hrv
  have hk3 := (hu3.block W0.heap.size (by have := ltOf hst.fl; omega) (by omega)).trans ((hst.fup.block W0.heap.size (ltOf Hk0.out) (by omega)).trans Hk0.out)
  have hown3 := hown.upd hu3 (fun g hg e => by have := (hown.lt g hg).1; have := HzW.out; omega)
  have hbel3 : Below w.heap.size w (W2.putObj (W0.heap.size + 1) (.loop { rec0 with state := .exhausted })) :=
    Hb1.out.trans ((hst.fup.trans hu3 (fun i hi => .inl (.inr (.inr hi)))).toLow (by have := Hb1.out.size; omega) (by rintro k (rfl | rfl | rfl) <;> omega))
  have hlW := ltOf hst.fl
  generalize W2.putObj (W0.heap.size + 1) (.loop { rec0 with state := .exhausted }) = W3 at hend hu3 hcb3 hrb3 hk3 hown3 hbel3
  refine ⟨none, W3, by rw [← r6]; exact hend, ?_⟩
  clear hend hst hrv hown hu3 r5 r6 hrec hlW
  simp only []
  gi_wp2
  have Hk3 := Lib.hid hk3
  have Hown3 := Lib.hid hown3
  have Hbel3 := Lib.hid hbel3
  have Hrb3 := Lib.hid hrb3
  have Hcb3 := Lib.hid hcb3
  have Hcase := Lib.hid hcase
  obtain ⟨c0, c1, c2, c3⟩ := box3 hcb3
  obtain ⟨d0, d1⟩ := box1 hrb3
  have hlc := ltOf hcb3
  have hlr := ltOf hrb3
  obtain ⟨Av, cv, hv, _, _⟩ := hown3.form
  rw [List.length_map] at hv
  subst hv
  clear hk3 hown3 hbel3 hrb3 hcb3 hcase hW0 Hm Hb1 Hk0
  have hu4 : ∀ w', w' = W3.setCell ⟨w.heap.size, 0, none⟩ (.slice none 0 0) ∨ w' = W3.setCell ⟨w.heap.size, 0, none⟩ (.slice Av L.length cv) → Upd W3 w' (fun i => i = w.heap.size) := by
    rintro w' (rfl | rfl)
    · exact (Upd.refl W3 _).setCell _ _ (.inl rfl)
    · exact (Upd.refl W3 _).setCell _ _ (.inl rfl)
  have Hu4 := Lib.hid hu4
  clear hu4
  by_cases her : er = 0
  · have hb : ((er : Int) != 0) = false := by rw [her]; rfl
    have her2 := her
    clear her
    have Her := Lib.hid her2
    clear her2
    go_wp2_with fail
    have hup := Hu4.out _ (.inr rfl)
    have hrb4 := heap_setCell_same W3 w.heap.size 0 _ _ (.slice Av L.length cv) Hrb3.out
    generalize W3.setCell ⟨w.heap.size, 0, none⟩ (.slice Av L.length cv) = W4 at hup hrb4 ⊢
    have hk4 := (hup.block W0.heap.size (ltOf Hk3.out) (by omega)).trans Hk3.out
    have hu5 : Upd W4 (W4.putObj W0.heap.size (.deferred none)) (fun i => i = W0.heap.size) := (Upd.refl W4 _).putObj _ _ (.inl rfl)
    have hrb5 := (hu5.block w.heap.size (ltOf hrb4) (by omega)).trans hrb4
    have hu6 := (hup.more (G := fun i => i = w.heap.size ∨ i = W0.heap.size) (fun i hi => .inl (.inl hi))).trans hu5 (fun i hi => .inl (.inr hi))
    have hown6 := Hown3.out.upd hu6 (fun g hg e => by have := (Hown3.out.lt g hg).1; have := HzW.out; omega)
    have hbel6 := Hbel3.out.trans (hu6.toLow (by have := Hbel3.out.size; omega) (by rintro k (rfl | rfl) <;> omega))
    have g0 := (box1 hrb5).1
    refine ⟨by simp, .inl ⟨_, _, rfl, run_takeDeferred hk4, ?_⟩⟩
    refine ⟨.tuple #[.slice Av L.length cv, .int .i64 0, .int .i64 0], by simp [results, Try.results16, go_sem, g0], ?_⟩
    rcases Hcase.out with ⟨_, hlx⟩ | ⟨hne, _⟩
    · exact ⟨_, L, 0, 0, rfl, hown6.base_le (by have := HzW.out; omega), hbel6, .inl ⟨by rw [hlx], by rw [hlx], rfl, rfl⟩⟩
    · exact absurd Her.out hne
  · have hb : ((er : Int) != 0) = true := by rw [bne_iff_ne]; omega
    have Her := Lib.hid her
    clear her
    go_wp2_with fail
    go_region_held3 (fun w' => w'.cell? ⟨w.heap.size + 1, 1, none⟩ = some (.int .i64 i) ∧ w'.cell? ⟨w.heap.size + 1, 2, none⟩ = some (.int .i64 er)) (first | exact ⟨c1, c2⟩ | exact ⟨(World.cell?_setCell_far _ _ _ _ (by simp)).trans c1, (World.cell?_setCell_far _ _ _ _ (by simp)).trans c2⟩) (fail)
    go_wp2_with fail
    have hup := Hu4.out _ (.inl rfl)
    have hrb4 := heap_setCell_same W3 w.heap.size 0 _ _ (.slice none 0 0) Hrb3.out
    generalize W3.setCell ⟨w.heap.size, 0, none⟩ (.slice none 0 0) = W4 at hup hrb4 ⊢
    rw [← hsz0]
    have hk4 : W4.drew.heap[W0.heap.size]? = some (.deferred (some [])) := (hup.block W0.heap.size (ltOf Hk3.out) (by omega)).trans Hk3.out
    have hup2 : Upd W3 W4.drew (fun i => i = w.heap.size) := hup.drewN 1
    have hrb42 : W4.drew.heap[w.heap.size]? = some (.cells (#[Value.slice Av L.length cv].setIfInBounds 0 (.slice none 0 0)) 22 (0, 0)) := hrb4
    generalize W4.drew = W5 at hk4 hup2 hrb42 ⊢
    have hu5 : Upd W5 (W5.putObj W0.heap.size (.deferred none)) (fun i => i = W0.heap.size) := (Upd.refl W5 _).putObj _ _ (.inl rfl)
    have hrb5 := (hu5.block w.heap.size (ltOf hrb42) (by omega)).trans hrb42
    have hu6 := (hup2.more (G := fun i => i = w.heap.size ∨ i = W0.heap.size) (fun i hi => .inl (.inl hi))).trans hu5 (fun i hi => .inl (.inr hi))
    have hbel6 := Hbel3.out.trans (hu6.toLow (by have := Hbel3.out.size; omega) (by rintro k (rfl | rfl) <;> omega))
    have g0 := (box1 hrb5).1
    refine ⟨by simp, .inl ⟨_, _, rfl, run_takeDeferred hk4, ?_⟩⟩
    refine ⟨.tuple #[.slice none 0 0, .int .i64 i, .int .i64 er], by simp [results, Try.results16, go_sem, g0], ?_⟩
    rcases Hcase.out with ⟨h0, _⟩ | ⟨_, hlx⟩
    · exact absurd h0 Her.out
    · exact ⟨_, [], i, er, rfl, Own.nil _ _ _ _, hbel6, .inr ⟨hlx, rfl⟩⟩

/-- What Cut hands back. -/
def cutR (s : ByteArray) : List Tk × Nat × Nat :=
  if 8000 < s.size then ([], 0, 3) else match (lex s 0).2 with
    | none => ((lex s 0).1, 0, 0)
    | some (a, er) => ([], a, er)
def CutRes (s : ByteArray) (w : World) (e : Ending) (w' : World) : Prop :=
  ∃ v, e = .returned (.tuple #[v, .int .i64 (cutR s).2.1, .int .i64 (cutR s).2.2]) ∧ Own w' w.heap.size 35 3 v ((cutR s).1.map tkRow) ∧ Below w.heap.size w w'

set_option maxHeartbeats 1000000 in
theorem cut_any (s : ByteArray) (m : Int) (w : World) (hm : w.cell? ⟨0, 0, none⟩ = some (.int .i64 m)) :
    Calls Try.prog 7 #[.string s] w (CutRes s w) := by
  by_cases hs : 8000 < s.size
  · have hq : cutR s = ([], 0, 3) := by unfold cutR; rw [if_pos hs]
    have Hq := Lib.hid hq
    clear hq
    go_enter Try.func7, Try.ntmps7
    go_wp2_with fail
    refine bodyPost_ret (results_tmp3 rfl _ _ _) rfl ?_
    exact ⟨_, by rw [Hq.out]; rfl, by rw [Hq.out]; exact Own.nil _ _ _ _, Below.refl _ _⟩
  · have hle : s.size ≤ 8000 := by omega
    have hq : cutR s = match (lex s 0).2 with | none => ((lex s 0).1, 0, 0) | some (a, er) => ([], a, er) := by unfold cutR; rw [if_neg hs]
    have Hq := Lib.hid hq
    have Hm := Lib.hid hm
    clear hq hs hm
    go_enter Try.func7, Try.ntmps7
    go_wp2_with (go_at_call 16
                 refine (all_any s m _ (by omega) Hm.out).mono ?_
                 rintro e1 w1 ⟨v, L, a, er, rfl, hown, hb, hc⟩
                 have Hown := Lib.hid hown
                 have Hb := Lib.hid hb
                 have Hc := Lib.hid hc
                 clear hown hb hc)
    refine bodyPost_ret (results_tmp3 rfl _ _ _) rfl ?_
    have h2 : cutR s = (L, a, er) := by
      rw [Hq.out]
      rcases Hc.out with ⟨h1, rfl, rfl, rfl⟩ | ⟨h1, rfl⟩
      · rw [h1]
      · rw [h1]
    exact ⟨v, by rw [h2]; rfl, by rw [h2]; exact Hown.out, Hb.out⟩

end Go.Proofs.Ytgmoneimfnackaa
