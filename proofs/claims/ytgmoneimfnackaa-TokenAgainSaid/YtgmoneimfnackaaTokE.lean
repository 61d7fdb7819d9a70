/-
  Walk over token's cutter.
-/
import Derived.Test.YtgmoneimfnackaaTokD
import Derived.RangeFuncNested
import Derived.RangeFuncBound
import Derived.RangeFuncCalls
import Derived.RangeFuncLeaves
import Derived.OwnWalkIn
import Derived.TacticsInMore
import Derived.LoopNIn
import Derived.LoopIn
import Derived.Deep.RegionHeld3
import Derived.WalkMore
namespace Go.Proofs.Ytgmoneimfnackaa
open Go.RowKit

theorem ltOf {w : World} {b : Nat} {o : Obj} (h : w.heap[b]? = some o) : b < w.heap.size := (Array.getElem?_eq_some_iff.1 h).1
theorem box3 {w : World} {b : Nat} {v0 v1 v2 : Value} {t : TypeId} (h : w.heap[b]? = some (.cells #[v0, v1, v2] t (0, 0))) :
    w.cell? ⟨b, 0, none⟩ = some v0 ∧ w.cell? ⟨b, 1, none⟩ = some v1 ∧ w.cell? ⟨b, 2, none⟩ = some v2 ∧ (∀ o, w.frozen? ⟨b, o, none⟩ = false) :=
  ⟨cell_of_row w b 0 _ _ _ h, cell_of_row w b 1 _ _ _ h, cell_of_row w b 2 _ _ _ h, fun o => frozen_of_row w b o _ _ h⟩
theorem box1 {w : World} {b : Nat} {v0 : Value} {t : TypeId} (h : w.heap[b]? = some (.cells #[v0] t (0, 0))) :
    w.cell? ⟨b, 0, none⟩ = some v0 ∧ w.frozen? ⟨b, 0, none⟩ = false := ⟨cell_of_row w b 0 _ _ _ h, frozen_of_row w b 0 _ _ h⟩

/-- A token's cells. -/
def tkRow (t : Tk) : List Value := [.int .i64 t.kind, .string t.text, .int .i64 t.pos]

/-- What holds between two rounds. -/
structure EcSt (w0 w : World) (m : Int) (s : ByteArray) (cb rb l i er : Nat) (L : List Tk) (rec0 : Loop) : Prop where
  fm : w.cell? ⟨0, 0, none⟩ = some (.int .i64 m)
  fc : w.heap[cb]? = some (.cells #[.string s, .int .i64 i, .int .i64 er] 41 (0, 0))
  fr : ∃ v, w.heap[rb]? = some (.cells #[v] 22 (0, 0)) ∧ Own w w0.heap.size 35 3 v (L.map tkRow)
  fl : w.heap[l]? = some (.loop rec0)
  fup : Upd w0 w (fun k => k = cb ∨ k = rb ∨ k = l)

/-- What the body of a range over tokens does, seen from the iterator. -/
def TkYield (l rb base : Nat) (rec0 : Loop) : Prop :=
  ∀ (t : Tk) (L : List Tk) (v : Value) (W : World), W.heap[l]? = some (.loop rec0) → W.heap[rb]? = some (.cells #[v] 22 (0, 0)) → Own W base 35 3 v (L.map tkRow) → L.length ≤ 1000000 → base ≤ W.heap.size →
    YieldAt Fence.wide 3 Try.prog l #[tkV t] W (fun e W' => e = .returned (.bool true) ∧ Upd W W' (fun k => k = rb ∨ k = l ∨ v.ownBlock = some k) ∧
      (∃ v', W'.heap[rb]? = some (.cells #[v'] 22 (0, 0)) ∧ Own W' base 35 3 v' ((L ++ [t]).map tkRow)) ∧ W'.heap[l]? = some (.loop rec0))

section
variable {w0 w w' : World} {m : Int} {s : ByteArray} {cb rb l i er : Nat} {L : List Tk} {rec0 : Loop}

theorem EcSt.drewN (h : EcSt w0 w m s cb rb l i er L rec0) (n : Nat) : EcSt w0 (w.drewN n) m s cb rb l i er L rec0 := by
  obtain ⟨v, h1, h2⟩ := h.fr
  exact ⟨h.fm, h.fc, ⟨v, h1, h2.drewN n⟩, h.fl, h.fup.drewN n⟩
theorem EcSt.low (h : EcSt w0 w m s cb rb l i er L rec0) (hb : Below w.heap.size w w') : EcSt w0 w' m s cb rb l i er L rec0 := by
  obtain ⟨v, h1, h2⟩ := h.fr
  have hc : ∀ (b : Nat) (o : Obj), w.heap[b]? = some o → w'.heap[b]? = some o := fun b o ho => (hb.block b (ltOf ho)).trans ho
  exact ⟨cell_later hb h.fm, hc _ _ h.fc, ⟨v, hc _ _ h1, h2.low hb⟩, hc _ _ h.fl, h.fup.trans (Upd.low hb (fun _ => False)) (by simp)⟩
theorem EcSt.set (h : EcSt w0 w m s cb rb l i er L rec0) (h0 : 0 < cb) (hrb : rb ≠ cb) (o : Nat) (u : Value) (i' er' : Nat) (hu : (#[Value.string s, .int .i64 i, .int .i64 er]).setIfInBounds o u = #[.string s, .int .i64 i', .int .i64 er']) :
    EcSt w0 (w.setCell ⟨cb, o, none⟩ u) m s cb rb l i' er' L rec0 := by
  obtain ⟨v, h1, h2⟩ := h.fr
  have hup : Upd w (w.setCell ⟨cb, o, none⟩ u) (fun k => k = cb) := (Upd.refl w _).setCell _ _ (.inl rfl)
  have hl : l ≠ cb := by rintro rfl; have := h.fl; rw [h.fc] at this; cases this
  have hc : ∀ (b : Nat) (o' : Obj), b ≠ cb → w.heap[b]? = some o' → (w.setCell ⟨cb, o, none⟩ u).heap[b]? = some o' := fun b o' hb ho => (hup.block b (ltOf ho) hb).trans ho
  refine ⟨?_, ?_, ⟨v, hc _ _ hrb h1, h2.upd hup ?_⟩, hc _ _ hl h.fl, h.fup.trans hup (by rintro k rfl; exact .inl (.inl rfl))⟩
  · have := h.fm
    unfold World.cell? at this ⊢
    rw [show (w.setCell ⟨cb, o, none⟩ u).heap[(0 : Nat)]? = w.heap[(0 : Nat)]? from hup.block 0 (by have := ltOf h.fc; omega) (by omega)]
    exact this
  · rw [heap_setCell_same w cb o _ _ u h.fc, hu]
  · intro g hg e
    exact h2.ne_cells h.fc (by decide) (by rw [hg, e])
theorem EcSt.yielded {v : Value} {t : Tk} (h : EcSt w0 w m s cb rb l i er L rec0) (h0 : 0 < cb) (h1 : 0 < rb) (h2 : 0 < l) (hz : 0 < w0.heap.size) (hcr : rb ≠ cb) (hv : Own w w0.heap.size 35 3 v (L.map tkRow)) (hu : Upd w w' (fun k => k = rb ∨ k = l ∨ v.ownBlock = some k))
    (hv' : ∃ v', w'.heap[rb]? = some (.cells #[v'] 22 (0, 0)) ∧ Own w' w0.heap.size 35 3 v' ((L ++ [t]).map tkRow)) (hl : w'.heap[l]? = some (.loop rec0)) :
    EcSt w0 w' m s cb rb l i er (L ++ [t]) rec0 := by
  have hlc : cb ≠ l := by rintro rfl; have := h.fl; rw [h.fc] at this; cases this
  have hvc : v.ownBlock ≠ some cb := hv.ne_cells h.fc (by decide)
  have hv0 : v.ownBlock ≠ some 0 := fun e => by have := (hv.lt _ e).1; omega
  refine ⟨?_, (hu.block cb (ltOf h.fc) (by rintro (e | e | e); exact hcr e.symm; exact hlc e; exact hvc e)).trans h.fc, hv', hl, h.fup.trans hu ?_⟩
  · have := h.fm
    unfold World.cell? at this ⊢
    rw [show w'.heap[(0 : Nat)]? = w.heap[(0 : Nat)]? from hu.block 0 (by have := ltOf h.fc; omega) (by rintro (e | e | e); omega; omega; exact hv0 e)]
    exact this
  · rintro k (rfl | rfl | e)
    · exact .inl (.inr (.inl rfl))
    · exact .inl (.inr (.inr rfl))
    · exact .inr (hv.lt _ e).1
end

def EcEnd (w0 : World) (m : Int) (s : ByteArray) (cb rb l : Nat) (rec0 : Loop) (e : Ending) (w' : World) : Prop :=
  e = .returned (.tuple #[]) ∧ ∃ i er L, EcSt w0 w' m s cb rb l i er L rec0 ∧ ((er = 0 ∧ lex s 0 = (L, none)) ∨ (er ≠ 0 ∧ (lex s 0).2 = some (i, er)))

theorem rmk_none {s : ByteArray} {i : Nat} (hi : i < s.size) (h1 : s[i].toNat ≠ 37) (h2 : s[i].toNat ≠ 47) : rmk (bts s) i = i := by
  have hd : (bts s).drop i = s[i] :: (bts s).drop (i + 1) := by
    rw [List.drop_eq_getElem_cons (by rw [bts_len]; exact hi)]
    rfl
  unfold rmk
  rw [hd]
  rw [if_neg (by simp; intro h; exact h1 (by rw [h]; rfl)), if_neg]
  intro h
  unfold Lib.hasPrefix at h
  have := List.isPrefixOf_iff_prefix.1 h
  obtain ⟨t, ht⟩ := this
  simp at ht
  exact h2 (by rw [← ht.1]; rfl)

theorem kp_low {w w' : World} {cb : Nat} {u v : Value} (hb : Below w.heap.size w w') (h : w.cell? ⟨cb, 0, none⟩ = some u ∧ w.cell? ⟨cb, 1, none⟩ = some v) : w'.cell? ⟨cb, 0, none⟩ = some u ∧ w'.cell? ⟨cb, 1, none⟩ = some v :=
  ⟨cell_later hb h.1, cell_later hb h.2⟩
theorem kp_alloc {w : World} {cb : Nat} {u v : Value} (o : Obj) (h : w.cell? ⟨cb, 0, none⟩ = some u ∧ w.cell? ⟨cb, 1, none⟩ = some v) : (w.alloc o).cell? ⟨cb, 0, none⟩ = some u ∧ (w.alloc o).cell? ⟨cb, 1, none⟩ = some v :=
  kp_low (below_box w o) h
theorem kp_set {w : World} {cb b o : Nat} {u v x : Value} (h : w.cell? ⟨cb, 0, none⟩ = some u ∧ w.cell? ⟨cb, 1, none⟩ = some v) (hb : b ≠ cb) : (w.setCell ⟨b, o, none⟩ x).cell? ⟨cb, 0, none⟩ = some u ∧ (w.setCell ⟨b, o, none⟩ x).cell? ⟨cb, 1, none⟩ = some v :=
  ⟨(World.cell?_setCell_far _ _ _ _ hb).trans h.1, (World.cell?_setCell_far _ _ _ _ hb).trans h.2⟩

theorem rmk_pct {s : ByteArray} {i : Nat} (hi : i < s.size) (h1 : s[i].toNat = 37) : rmk (bts s) i ≠ i := by
  have hd : (bts s).drop i = s[i] :: (bts s).drop (i + 1) := by
    rw [List.drop_eq_getElem_cons (by rw [bts_len]; exact hi)]
    rfl
  have hs : s[i] = 37 := UInt8.toNat_inj.1 (by rw [h1]; rfl)
  unfold rmk
  rw [hd, hs]
  rw [if_pos (by simp)]
  split
  · rename_i h
    obtain ⟨n, hn⟩ : ∃ n : Nat, Lib.indexByte (37 :: (bts s).drop (i + 1)) 10 = n := ⟨(Lib.indexByte (37 :: (bts s).drop (i + 1)) 10).toNat, by omega⟩
    have h2 := (Lib.indexByte_some hn).1
    rw [hn]
    intro h3
    have : n = 0 := by simp at h3; omega
    subst this
    simp at h2
  · rw [bts_len]
    omega

set_option maxRecDepth 100000 in
set_option maxHeartbeats 4000000 in
theorem each_any (s : ByteArray) (m : Int) (cb rb l : Nat) (rec0 : Loop) (w : World) (hs : s.size ≤ 1000000) (h0 : 0 < cb) (h1 : 0 < rb) (h2 : 0 < l) (hcr : rb ≠ cb)
    (hst : EcSt w w m s cb rb l 0 0 [] rec0) (hY : TkYield l rb w.heap.size rec0) :
    Calls Try.prog 22 #[.pointer (some ⟨cb, 0, none⟩), .func (.yield l) #[] #[]] w (EcEnd w m s cb rb l rec0) := by
  have Hst := Lib.hid hst
  have HY := Lib.hid hY
  have hz : 0 < w.heap.size := by have := ltOf hst.fc; omega
  clear hst hY
  go_enter Try.func22, Try.ntmps22
  go_wp2_with fail
  go_loopw [] (fun wr => ∃ i L, i ≤ s.size ∧ L.length ≤ i ∧ lex s 0 = (L ++ (lex s i).1, (lex s i).2) ∧ EcSt w wr m s cb rb l i 0 L rec0) (fun wr => s.size - (intOf ((wr.cell? ⟨cb, 1, none⟩).getD undef)).toNat)
  case atStart => exact ⟨0, [], Nat.zero_le _, Nat.zero_le _, by simp, Hst.out⟩
  case round =>
    obtain ⟨i, L, hi, hL, hlx, hst⟩ := hrel
    have hlcb := ltOf hst.fc
    obtain ⟨e0, e1, e2, e3⟩ := box3 hst.fc
    have Hst1 := Lib.hid hst
    have Hlx := Lib.hid hlx
    clear hst Hst hlx e2
    go_wp2_with fail
    go_quiet (fail)
    have E1 := Lib.hid e1
    by_cases hlt : i < s.size
    · have hst2 := Hst1.out.drewN nq
      clear e0 e1 e3 Hst1
      generalize wr.drewN nq = w2 at hst2 ⊢
      clear nq
      obtain ⟨e0, e1, e2, e3⟩ := box3 hst2.fc
      have Hst2 := Lib.hid hst2
      have hl2 := ltOf hst2.fc
      clear hst2 e2 hlcb
      go_wp2_with fail
      go_step3
      go_wp2_with fail
      go_step3
      go_wp2_with fail
      go_quiet (fail)
      have hst3 := Hst2.out.drewN nq
      clear e0 e1 e3 Hst2 hl2
      generalize w2.drewN nq = w3 at hst3 ⊢
      clear nq
      obtain ⟨e0, e1, e2, e3⟩ := box3 hst3.fc
      have hl3 := ltOf hst3.fc
      have Hst3 := Lib.hid hst3
      clear hst3 e2
      have hc := bts_get s hlt
      have Hc := Lib.hid hc
      clear hc
      by_cases hbl : isBlank s[i].toNat = true
      · have hlx2 : lex s i = lex s (i + 1) := lex_skip hlt (by unfold stepAt; rw [Hc.out, if_pos hbl])
        have Hlx2 := Lib.hid hlx2
        clear hlx2
        have hcs : s[i].toNat = 32 ∨ s[i].toNat = 9 ∨ s[i].toNat = 10 ∨ s[i].toNat = 13 := by
          unfold isBlank at hbl
          simp at hbl
          omega
        clear hbl
        rcases hcs with h | h | h | h
        · have q0 : ((s[i].toNat : Int) == 32) = true := by rw [h]; rfl
          clear h
          go_wp2_with fail
          rw [Exit.noGoto_exit]
          go_wp2_with fail
          refine ⟨⟨i + 1, L, by omega, by omega, by rw [Hlx.out, Hlx2.out], Hst3.out.set h0 hcr 1 _ (i + 1) 0 rfl⟩, ?_⟩
          have g1 := (box3 (Hst3.out.set h0 hcr 1 (.int .i64 ((i : Int) + 1)) (i + 1) 0 rfl).fc).2.1
          rw [E1.out, g1]
          simp only [Option.getD_some, intOf]
          omega
        · have q0 : ((s[i].toNat : Int) == 32) = false := by rw [h]; rfl
          have q1 : ((s[i].toNat : Int) == 9) = true := by rw [h]; rfl
          clear h
          go_wp2_with fail
          rw [Exit.noGoto_exit]
          go_wp2_with fail
          refine ⟨⟨i + 1, L, by omega, by omega, by rw [Hlx.out, Hlx2.out], Hst3.out.set h0 hcr 1 _ (i + 1) 0 rfl⟩, ?_⟩
          have g1 := (box3 (Hst3.out.set h0 hcr 1 (.int .i64 ((i : Int) + 1)) (i + 1) 0 rfl).fc).2.1
          rw [E1.out, g1]
          simp only [Option.getD_some, intOf]
          omega
        · have q0 : ((s[i].toNat : Int) == 32) = false := by rw [h]; rfl
          have q1 : ((s[i].toNat : Int) == 9) = false := by rw [h]; rfl
          have q2 : ((s[i].toNat : Int) == 10) = true := by rw [h]; rfl
          clear h
          go_wp2_with fail
          rw [Exit.noGoto_exit]
          go_wp2_with fail
          refine ⟨⟨i + 1, L, by omega, by omega, by rw [Hlx.out, Hlx2.out], Hst3.out.set h0 hcr 1 _ (i + 1) 0 rfl⟩, ?_⟩
          have g1 := (box3 (Hst3.out.set h0 hcr 1 (.int .i64 ((i : Int) + 1)) (i + 1) 0 rfl).fc).2.1
          rw [E1.out, g1]
          simp only [Option.getD_some, intOf]
          omega
        · have q0 : ((s[i].toNat : Int) == 32) = false := by rw [h]; rfl
          have q1 : ((s[i].toNat : Int) == 9) = false := by rw [h]; rfl
          have q2 : ((s[i].toNat : Int) == 10) = false := by rw [h]; rfl
          have q3 : ((s[i].toNat : Int) == 13) = true := by rw [h]; rfl
          clear h
          go_wp2_with fail
          rw [Exit.noGoto_exit]
          go_wp2_with fail
          refine ⟨⟨i + 1, L, by omega, by omega, by rw [Hlx.out, Hlx2.out], Hst3.out.set h0 hcr 1 _ (i + 1) 0 rfl⟩, ?_⟩
          have g1 := (box3 (Hst3.out.set h0 hcr 1 (.int .i64 ((i : Int) + 1)) (i + 1) 0 rfl).fc).2.1
          rw [E1.out, g1]
          simp only [Option.getD_some, intOf]
          omega
      · have hnb : s[i].toNat ≠ 32 ∧ s[i].toNat ≠ 9 ∧ s[i].toNat ≠ 10 ∧ s[i].toNat ≠ 13 := by
          unfold isBlank at hbl
          simp at hbl
          omega
        have q0 : ((s[i].toNat : Int) == 32) = false := by rw [beq_eq_false_iff_ne]; omega
        have q1 : ((s[i].toNat : Int) == 9) = false := by rw [beq_eq_false_iff_ne]; omega
        have q2 : ((s[i].toNat : Int) == 10) = false := by rw [beq_eq_false_iff_ne]; omega
        have q3 : ((s[i].toNat : Int) == 13) = false := by rw [beq_eq_false_iff_ne]; omega
        have Hbl := Lib.hid hbl
        clear hnb hbl
        by_cases h37 : s[i].toNat = 37
        · have hrn := rmk_pct hlt h37
          have q4 : ((s[i].toNat : Int) == 37) = true := by rw [h37]; rfl
          clear h37
          obtain ⟨rk, hrk⟩ : ∃ rk, rmk (bts s) i = rk := ⟨_, rfl⟩
          have hle := rmk_le (bts s) (i := i) (by rw [bts_len]; exact hlt)
          have hlx2 : lex s i = lex s rk := lex_skip hlt (by unfold stepAt; rw [Hc.out, if_neg Hbl.out, if_pos hrn, hrk])
          rw [bts_len, hrk] at hle
          rw [hrk] at hrn
          obtain ⟨hle1, hle2⟩ := hle
          have Hrk := Lib.hid hrk
          have Hlx2 := Lib.hid hlx2
          have q6 : ((rk : Int) == (i : Int)) = false := by rw [beq_eq_false_iff_ne]; omega
          have hgt : i < rk := by omega
          have hrem : ∀ n, Calls Try.prog 28 #[.string s, .int .i64 i] (w3.drewN n) (fun e w' => e = .returned (.int .i64 rk) ∧ w' = w3.drewN n) := fun n => (remark_any s i m (w3.drewN n) hlt hs Hst3.out.fm).mono (fun e w' h => by rw [hrk] at h; exact h)
          have Hrem := Lib.hid hrem
          clear hrk hlx2 hrn hrem
          go_wp2_with fail
          go_quiet ((go_at_call 28; exact Calls.quiet_of_same (Hrem.out _)))
          have hst5 := Hst3.out.drewN nq
          clear e0 e1 e3 Hst3 hl3
          generalize w3.drewN nq = w5 at hst5 ⊢
          obtain ⟨e0, e1, e2, e3⟩ := box3 hst5.fc
          have hl5 := ltOf hst5.fc
          have Hst5 := Lib.hid hst5
          clear hst5 e2
          go_wp2_with fail
          rw [Exit.noGoto_exit]
          go_wp2_with fail
          have hst8 := Hst5.out.set h0 hcr 1 (.int .i64 (rk : Int)) rk 0 rfl
          refine ⟨⟨rk, L, hle2, by omega, by rw [Hlx.out, Hlx2.out], hst8⟩, ?_⟩
          rw [E1.out, (box3 hst8.fc).2.1]
          simp only [Option.getD_some, intOf]
          omega
        · by_cases h47 : s[i].toNat = 47
          · have q4 : ((s[i].toNat : Int) == 37) = false := by rw [beq_eq_false_iff_ne]; omega
            have q5 : ((s[i].toNat : Int) == 47) = true := by rw [h47]; rfl
            clear h37 h47
            by_cases hrn : rmk (bts s) i = i
            · have Hrn := Lib.hid hrn
              have hrem : ∀ n, Calls Try.prog 28 #[.string s, .int .i64 i] (w3.drewN n) (fun e w' => e = .returned (.int .i64 i) ∧ w' = w3.drewN n) := fun n => (remark_any s i m (w3.drewN n) hlt hs Hst3.out.fm).mono (fun e w' h => by rw [Hrn.out] at h; exact h)
              have Hrem := Lib.hid hrem
              clear hrn hrem
              go_wp2_with fail
              go_quiet ((go_at_call 28; exact Calls.quiet_of_same (Hrem.out _)))
              have hst5 := Hst3.out.drewN nq
              clear e0 e1 e3 Hst3 hl3
              generalize w3.drewN nq = w3 at hst5 ⊢
              clear nq
              obtain ⟨e0, e1, e2, e3⟩ := box3 hst5.fc
              have hl3 := ltOf hst5.fc
              have Hst3 := Lib.hid hst5
              clear hst5 e2
              go_upto_region 12 with fail
              obtain ⟨kd, tx, ps, en, hone⟩ : ∃ kd tx ps en, oneT s i = (⟨kd, tx, ps⟩, en) := ⟨_, _, _, _, rfl⟩
              have hle := oneT_le s hlt
              have hstp : stepAt s i = if en = i then .fault 220 else if kd ≠ 6 ∧ 40 < tx.size then .fault 3 else .tok ⟨kd, tx, ps⟩ en := by
                unfold stepAt
                rw [Hc.out, if_neg Hbl.out, if_neg (by rw [Hrn.out]; simp), hone]
              rw [hone] at hle
              obtain ⟨hle1, hle2⟩ := hle
              have Hone := Lib.hid hone
              have Hstp := Lib.hid hstp
              clear hone hstp
              go_cut [5, 6] from 7 to 103 (fun p q w' => ∃ tb, p = .pointer (some ⟨tb, 0, none⟩) ∧ q = .int .i64 en ∧ w'.heap[tb]? = some (.cells #[.int .i64 kd, .string tx, .int .i64 ps] 35 (0, 0)) ∧ Below w3.heap.size w3 w')
              case first =>
                have hn3 := World.new_ne w3 _ e0
                go_region_held3 (fun w' => w'.cell? ⟨cb, 0, none⟩ = some (.string s) ∧ w'.cell? ⟨cb, 1, none⟩ = some (.int .i64 i)) (first | exact ⟨e0, e1⟩ | exact sS | exact kp_alloc _ (by first | exact ⟨e0, e1⟩ | exact sS) | ((repeat (refine kp_set ?_ (by first | exact hn3 | exact hn4))); first | exact sS | exact kp_alloc _ sS))
                  (first | (go_at_call 29
                            refine (one_any s i _ hlt hs).mono ?_
                            rintro e1 w4 ⟨rfl, hb1⟩
                            have hn4 : w4.heap.size ≠ cb := by have := hb1.size; simp at this; omega
                            have sS := kp_low hb1 (by first | exact ⟨e0, e1⟩ | exact kp_alloc _ ⟨e0, e1⟩)
                            try (have bx : w4.heap[w3.heap.size]? = some (.cells #[.int .i64 0, .string ⟨#[]⟩, .int .i64 0] 35 (0, 0)) := (hb1.block w3.heap.size (by simp)).trans (heap_alloc_new w3 _)
                                 obtain ⟨k0, k1, k2, kf⟩ := box3 bx)
                            rw [Hone.out]
                            simp only [tkV]))
                · go_wp2_with fail
                  go_meet
                  have hb2 : Below w3.heap.size w3 w4 := ⟨hb1.os, hb1.tape, hb1.output, hb1.size, hb1.block⟩
                  exact ⟨_, rfl, rfl, heap_alloc_new w4 _, hb2.alloc hb2.size _⟩
                · have hb2 : Below (w3.alloc (.cells #[.int .i64 0, .string ⟨#[]⟩, .int .i64 0] 35)).heap.size (w3.alloc (.cells #[.int .i64 0, .string ⟨#[]⟩, .int .i64 0] 35)) w4 := ⟨hb1.os, hb1.tape, hb1.output, hb1.size, hb1.block⟩
                  have hb3 : Below w3.heap.size w3 w4 := (below_box w3 _).trans (hb2.mono (by simp))
                  go_wp2_with fail
                  go_meet
                  exact ⟨_, rfl, rfl, (heap_setCell_same _ _ 2 _ _ (.int .i64 ps) ((heap_setCell_same _ _ 1 _ _ (.string tx) ((heap_setCell_same w4 _ 0 _ _ (.int .i64 kd) bx).trans rfl)).trans rfl)).trans rfl, ((hb3.setCell (by simp) _).setCell (by simp) _).setCell (by simp) _⟩
              case rest =>
                obtain ⟨tb, rfl, rfl, htc, hbw⟩ := hcut
                have hst4 := Hst3.out.low hbw
                clear e0 e1 e3 Hst3 hl3 hbw
                obtain ⟨e0, e1, e2, e3⟩ := box3 hst4.fc
                have hl4 := ltOf hst4.fc
                obtain ⟨t0, t1, t2, t3⟩ := box3 htc
                have Hst4 := Lib.hid hst4
                have Htc := Lib.hid htc
                clear hst4 htc
                by_cases hen : en = i
                · have hfa : lex s i = ([], some (i, 220)) := lex_fault hlt (by rw [Hstp.out, if_pos hen])
                  have q6 : ((en : Int) == (i : Int)) = true := by rw [hen]; simp
                  have Hfa := Lib.hid hfa
                  clear hfa hen
                  go_wp2_with fail
                  refine bodyPost_ret (results_none rfl _ _ _) rfl ?_
                  exact ⟨rfl, i, 220, L, Hst4.out.set h0 hcr 2 _ i 220 rfl, .inr ⟨by decide, by rw [Hlx.out, Hfa.out]⟩⟩
                · have q6 : ((en : Int) == (i : Int)) = false := by rw [beq_eq_false_iff_ne]; omega
                  by_cases hlg : kd ≠ 6 ∧ 40 < tx.size
                  · have hfa : lex s i = ([], some (i, 3)) := lex_fault hlt (by rw [Hstp.out, if_neg hen, if_pos hlg])
                    have q7 : ((kd : Int) != 6) = true := by rw [bne_iff_ne]; omega
                    have q8 := hlg.2
                    have Hfa := Lib.hid hfa
                    clear hfa hen hlg
                    go_wp2_with fail
                    refine bodyPost_ret (results_none rfl _ _ _) rfl ?_
                    exact ⟨rfl, i, 3, L, Hst4.out.set h0 hcr 2 _ i 3 rfl, .inr ⟨by decide, by rw [Hlx.out, Hfa.out]⟩⟩
                  · have htk : lex s i = (⟨kd, tx, ps⟩ :: (lex s en).1, (lex s en).2) := lex_tok hlt (by rw [Hstp.out, if_neg hen, if_neg hlg])
                    have Htk := Lib.hid htk
                    have hi2 : i < en := by omega
                    obtain ⟨v, hrb, hown⟩ := Hst4.out.fr
                    obtain ⟨fn, tmps, assign, body, hy, hR⟩ := HY.out ⟨kd, tx, ps⟩ L v wc Hst4.out.fl hrb hown (by omega) Hst4.out.fup.size
                    simp only [tkV] at hy
                    have Hown := Lib.hid hown
                    have HR := Lib.hid hR
                    clear htk hrb hown hR hen
                    by_cases hk6 : kd = 6
                    · have q7 : ((kd : Int) != 6) = false := by rw [hk6]; rfl
                      clear hlg hk6
                      go_upto_region 17 with fail
                      refine (wpIn_wide (n := 4)).1 ?_
                      gi_wp2
                      refine HR.out.mono ?_
                      rintro e w7 ⟨rfl, hu7, hv7, hl7⟩
                      have hst7 := Hst4.out.yielded h0 h1 h2 hz hcr Hown.out hu7 hv7 hl7
                      clear hu7 hv7 hl7 t0 t1 t2 t3 e0 e1 e2 e3 hl4
                      obtain ⟨e0, e1, e2, e3⟩ := box3 hst7.fc
                      have hl7 := ltOf hst7.fc
                      have Hst7 := Lib.hid hst7
                      clear hst7
                      simp only []
                      go_at_K
                      gi_wp2
                      go_wp2_with fail
                      rw [Exit.noGoto_normal]
                      go_wp2_with fail
                      have hst8 := Hst7.out.set h0 hcr 1 (.int .i64 (en : Int)) en 0 rfl
                      refine ⟨⟨en, L ++ [⟨kd, tx, ps⟩], hle2, by simp; omega, by rw [Hlx.out, Htk.out]; simp, hst8⟩, ?_⟩
                      rw [E1.out, (box3 hst8.fc).2.1]
                      simp only [Option.getD_some, intOf]
                      omega
                    · have q7 : ((kd : Int) != 6) = true := by rw [bne_iff_ne]; omega
                      have q8 : tx.size ≤ 40 := by omega
                      clear hlg hk6
                      go_upto_region 17 with fail
                      refine (wpIn_wide (n := 4)).1 ?_
                      gi_wp2
                      refine HR.out.mono ?_
                      rintro e w7 ⟨rfl, hu7, hv7, hl7⟩
                      have hst7 := Hst4.out.yielded h0 h1 h2 hz hcr Hown.out hu7 hv7 hl7
                      clear hu7 hv7 hl7 t0 t1 t2 t3 e0 e1 e2 e3 hl4
                      obtain ⟨e0, e1, e2, e3⟩ := box3 hst7.fc
                      have hl7 := ltOf hst7.fc
                      have Hst7 := Lib.hid hst7
                      clear hst7
                      simp only []
                      go_at_K
                      gi_wp2
                      go_wp2_with fail
                      rw [Exit.noGoto_normal]
                      go_wp2_with fail
                      have hst8 := Hst7.out.set h0 hcr 1 (.int .i64 (en : Int)) en 0 rfl
                      refine ⟨⟨en, L ++ [⟨kd, tx, ps⟩], hle2, by simp; omega, by rw [Hlx.out, Htk.out]; simp, hst8⟩, ?_⟩
                      rw [E1.out, (box3 hst8.fc).2.1]
                      simp only [Option.getD_some, intOf]
                      omega
            · skip
              obtain ⟨rk, hrk⟩ : ∃ rk, rmk (bts s) i = rk := ⟨_, rfl⟩
              have hle := rmk_le (bts s) (i := i) (by rw [bts_len]; exact hlt)
              have hlx2 : lex s i = lex s rk := lex_skip hlt (by unfold stepAt; rw [Hc.out, if_neg Hbl.out, if_pos hrn, hrk])
              rw [bts_len, hrk] at hle
              rw [hrk] at hrn
              obtain ⟨hle1, hle2⟩ := hle
              have Hrk := Lib.hid hrk
              have Hlx2 := Lib.hid hlx2
              have q6 : ((rk : Int) == (i : Int)) = false := by rw [beq_eq_false_iff_ne]; omega
              have hgt : i < rk := by omega
              have hrem : ∀ n, Calls Try.prog 28 #[.string s, .int .i64 i] (w3.drewN n) (fun e w' => e = .returned (.int .i64 rk) ∧ w' = w3.drewN n) := fun n => (remark_any s i m (w3.drewN n) hlt hs Hst3.out.fm).mono (fun e w' h => by rw [hrk] at h; exact h)
              have Hrem := Lib.hid hrem
              clear hrk hlx2 hrn hrem
              go_wp2_with fail
              go_quiet ((go_at_call 28; exact Calls.quiet_of_same (Hrem.out _)))
              have hst5 := Hst3.out.drewN nq
              clear e0 e1 e3 Hst3 hl3
              generalize w3.drewN nq = w5 at hst5 ⊢
              obtain ⟨e0, e1, e2, e3⟩ := box3 hst5.fc
              have hl5 := ltOf hst5.fc
              have Hst5 := Lib.hid hst5
              clear hst5 e2
              go_wp2_with fail
              rw [Exit.noGoto_exit]
              go_wp2_with fail
              have hst8 := Hst5.out.set h0 hcr 1 (.int .i64 (rk : Int)) rk 0 rfl
              refine ⟨⟨rk, L, hle2, by omega, by rw [Hlx.out, Hlx2.out], hst8⟩, ?_⟩
              rw [E1.out, (box3 hst8.fc).2.1]
              simp only [Option.getD_some, intOf]
              omega
          · have hrn := rmk_none hlt h37 h47
            have q4 : ((s[i].toNat : Int) == 37) = false := by rw [beq_eq_false_iff_ne]; omega
            have q5 : ((s[i].toNat : Int) == 47) = false := by rw [beq_eq_false_iff_ne]; omega
            have Hrn := Lib.hid hrn
            clear h37 h47 hrn
            go_upto_region 12 with fail
            obtain ⟨kd, tx, ps, en, hone⟩ : ∃ kd tx ps en, oneT s i = (⟨kd, tx, ps⟩, en) := ⟨_, _, _, _, rfl⟩
            have hle := oneT_le s hlt
            have hstp : stepAt s i = if en = i then .fault 220 else if kd ≠ 6 ∧ 40 < tx.size then .fault 3 else .tok ⟨kd, tx, ps⟩ en := by
              unfold stepAt
              rw [Hc.out, if_neg Hbl.out, if_neg (by rw [Hrn.out]; simp), hone]
            rw [hone] at hle
            obtain ⟨hle1, hle2⟩ := hle
            have Hone := Lib.hid hone
            have Hstp := Lib.hid hstp
            clear hone hstp
            go_cut [5, 6] from 7 to 103 (fun p q w' => ∃ tb, p = .pointer (some ⟨tb, 0, none⟩) ∧ q = .int .i64 en ∧ w'.heap[tb]? = some (.cells #[.int .i64 kd, .string tx, .int .i64 ps] 35 (0, 0)) ∧ Below w3.heap.size w3 w')
            case first =>
              have hn3 := World.new_ne w3 _ e0
              go_region_held3 (fun w' => w'.cell? ⟨cb, 0, none⟩ = some (.string s) ∧ w'.cell? ⟨cb, 1, none⟩ = some (.int .i64 i)) (first | exact ⟨e0, e1⟩ | exact sS | exact kp_alloc _ (by first | exact ⟨e0, e1⟩ | exact sS) | ((repeat (refine kp_set ?_ (by first | exact hn3 | exact hn4))); first | exact sS | exact kp_alloc _ sS))
                (first | (go_at_call 29
                          refine (one_any s i _ hlt hs).mono ?_
                          rintro e1 w4 ⟨rfl, hb1⟩
                          have hn4 : w4.heap.size ≠ cb := by have := hb1.size; simp at this; omega
                          have sS := kp_low hb1 (by first | exact ⟨e0, e1⟩ | exact kp_alloc _ ⟨e0, e1⟩)
                          try (have bx : w4.heap[w3.heap.size]? = some (.cells #[.int .i64 0, .string ⟨#[]⟩, .int .i64 0] 35 (0, 0)) := (hb1.block w3.heap.size (by simp)).trans (heap_alloc_new w3 _)
                               obtain ⟨k0, k1, k2, kf⟩ := box3 bx)
                          rw [Hone.out]
                          simp only [tkV]))
              · go_wp2_with fail
                go_meet
                have hb2 : Below w3.heap.size w3 w4 := ⟨hb1.os, hb1.tape, hb1.output, hb1.size, hb1.block⟩
                exact ⟨_, rfl, rfl, heap_alloc_new w4 _, hb2.alloc hb2.size _⟩
              · have hb2 : Below (w3.alloc (.cells #[.int .i64 0, .string ⟨#[]⟩, .int .i64 0] 35)).heap.size (w3.alloc (.cells #[.int .i64 0, .string ⟨#[]⟩, .int .i64 0] 35)) w4 := ⟨hb1.os, hb1.tape, hb1.output, hb1.size, hb1.block⟩
                have hb3 : Below w3.heap.size w3 w4 := (below_box w3 _).trans (hb2.mono (by simp))
                go_wp2_with fail
                go_meet
                exact ⟨_, rfl, rfl, (heap_setCell_same _ _ 2 _ _ (.int .i64 ps) ((heap_setCell_same _ _ 1 _ _ (.string tx) ((heap_setCell_same w4 _ 0 _ _ (.int .i64 kd) bx).trans rfl)).trans rfl)).trans rfl, ((hb3.setCell (by simp) _).setCell (by simp) _).setCell (by simp) _⟩
            case rest =>
              obtain ⟨tb, rfl, rfl, htc, hbw⟩ := hcut
              have hst4 := Hst3.out.low hbw
              clear e0 e1 e3 Hst3 hl3 hbw
              obtain ⟨e0, e1, e2, e3⟩ := box3 hst4.fc
              have hl4 := ltOf hst4.fc
              obtain ⟨t0, t1, t2, t3⟩ := box3 htc
              have Hst4 := Lib.hid hst4
              have Htc := Lib.hid htc
              clear hst4 htc
              by_cases hen : en = i
              · have hfa : lex s i = ([], some (i, 220)) := lex_fault hlt (by rw [Hstp.out, if_pos hen])
                have q6 : ((en : Int) == (i : Int)) = true := by rw [hen]; simp
                have Hfa := Lib.hid hfa
                clear hfa hen
                go_wp2_with fail
                refine bodyPost_ret (results_none rfl _ _ _) rfl ?_
                exact ⟨rfl, i, 220, L, Hst4.out.set h0 hcr 2 _ i 220 rfl, .inr ⟨by decide, by rw [Hlx.out, Hfa.out]⟩⟩
              · have q6 : ((en : Int) == (i : Int)) = false := by rw [beq_eq_false_iff_ne]; omega
                by_cases hlg : kd ≠ 6 ∧ 40 < tx.size
                · have hfa : lex s i = ([], some (i, 3)) := lex_fault hlt (by rw [Hstp.out, if_neg hen, if_pos hlg])
                  have q7 : ((kd : Int) != 6) = true := by rw [bne_iff_ne]; omega
                  have q8 := hlg.2
                  have Hfa := Lib.hid hfa
                  clear hfa hen hlg
                  go_wp2_with fail
                  refine bodyPost_ret (results_none rfl _ _ _) rfl ?_
                  exact ⟨rfl, i, 3, L, Hst4.out.set h0 hcr 2 _ i 3 rfl, .inr ⟨by decide, by rw [Hlx.out, Hfa.out]⟩⟩
                · have htk : lex s i = (⟨kd, tx, ps⟩ :: (lex s en).1, (lex s en).2) := lex_tok hlt (by rw [Hstp.out, if_neg hen, if_neg hlg])
                  have Htk := Lib.hid htk
                  have hi2 : i < en := by omega
                  obtain ⟨v, hrb, hown⟩ := Hst4.out.fr
                  obtain ⟨fn, tmps, assign, body, hy, hR⟩ := HY.out ⟨kd, tx, ps⟩ L v wc Hst4.out.fl hrb hown (by omega) Hst4.out.fup.size
                  simp only [tkV] at hy
                  have Hown := Lib.hid hown
                  have HR := Lib.hid hR
                  clear htk hrb hown hR hen
                  by_cases hk6 : kd = 6
                  · have q7 : ((kd : Int) != 6) = false := by rw [hk6]; rfl
                    clear hlg hk6
                    go_upto_region 17 with fail
                    refine (wpIn_wide (n := 4)).1 ?_
                    gi_wp2
                    refine HR.out.mono ?_
                    rintro e w7 ⟨rfl, hu7, hv7, hl7⟩
                    have hst7 := Hst4.out.yielded h0 h1 h2 hz hcr Hown.out hu7 hv7 hl7
                    clear hu7 hv7 hl7 t0 t1 t2 t3 e0 e1 e2 e3 hl4
                    obtain ⟨e0, e1, e2, e3⟩ := box3 hst7.fc
                    have hl7 := ltOf hst7.fc
                    have Hst7 := Lib.hid hst7
                    clear hst7
                    simp only []
                    go_at_K
                    gi_wp2
                    go_wp2_with fail
                    rw [Exit.noGoto_normal]
                    go_wp2_with fail
                    have hst8 := Hst7.out.set h0 hcr 1 (.int .i64 (en : Int)) en 0 rfl
                    refine ⟨⟨en, L ++ [⟨kd, tx, ps⟩], hle2, by simp; omega, by rw [Hlx.out, Htk.out]; simp, hst8⟩, ?_⟩
                    rw [E1.out, (box3 hst8.fc).2.1]
                    simp only [Option.getD_some, intOf]
                    omega
                  · have q7 : ((kd : Int) != 6) = true := by rw [bne_iff_ne]; omega
                    have q8 : tx.size ≤ 40 := by omega
                    clear hlg hk6
                    go_upto_region 17 with fail
                    refine (wpIn_wide (n := 4)).1 ?_
                    gi_wp2
                    refine HR.out.mono ?_
                    rintro e w7 ⟨rfl, hu7, hv7, hl7⟩
                    have hst7 := Hst4.out.yielded h0 h1 h2 hz hcr Hown.out hu7 hv7 hl7
                    clear hu7 hv7 hl7 t0 t1 t2 t3 e0 e1 e2 e3 hl4
                    obtain ⟨e0, e1, e2, e3⟩ := box3 hst7.fc
                    have hl7 := ltOf hst7.fc
                    have Hst7 := Lib.hid hst7
                    clear hst7
                    simp only []
                    go_at_K
                    gi_wp2
                    go_wp2_with fail
                    rw [Exit.noGoto_normal]
                    go_wp2_with fail
                    have hst8 := Hst7.out.set h0 hcr 1 (.int .i64 (en : Int)) en 0 rfl
                    refine ⟨⟨en, L ++ [⟨kd, tx, ps⟩], hle2, by simp; omega, by rw [Hlx.out, Htk.out]; simp, hst8⟩, ?_⟩
                    rw [E1.out, (box3 hst8.fc).2.1]
                    simp only [Option.getD_some, intOf]
                    omega
    · have hie : i = s.size := by omega
      subst hie
      have hst2 := Hst1.out.drewN nq
      clear e0 e1 e3 Hst1
      generalize wr.drewN nq = w2 at hst2 ⊢
      clear nq
      obtain ⟨e0, e1, e2, e3⟩ := box3 hst2.fc
      have hl2 := ltOf hst2.fc
      obtain ⟨v, hrb, hown⟩ := hst2.fr
      obtain ⟨fn, tmps, assign, body, hy, hR⟩ := HY.out (endT s) L v w2 hst2.fl hrb hown (by omega) hst2.fup.size
      unfold endT at hy
      simp only [tkV] at hy
      rw [show ((7 : Nat) : Int) = 7 from rfl] at hy
      have Hown := Lib.hid hown
      have HR := Lib.hid hR
      have Hst2 := Lib.hid hst2
      clear hrb hown hR hst2
      go_upto_region 19 with fail
      refine (wpIn_wide (n := 4)).1 ?_
      gi_wp2
      refine HR.out.mono ?_
      rintro e w7 ⟨rfl, hu7, hv7, hl7⟩
      have hst7 := Hst2.out.yielded h0 h1 h2 hz hcr Hown.out hu7 hv7 hl7
      clear hu7 hv7 hl7 e0 e1 e3 hl2
      have Hst7 := Lib.hid hst7
      clear hst7
      simp only []
      go_at_K
      gi_wp2
      go_wp2_with fail
      go_end0
      exact ⟨rfl, s.size, 0, L ++ [endT s], Hst7.out, .inl ⟨rfl, by rw [Hlx.out, lex_end rfl]⟩⟩

end Go.Proofs.Ytgmoneimfnackaa
