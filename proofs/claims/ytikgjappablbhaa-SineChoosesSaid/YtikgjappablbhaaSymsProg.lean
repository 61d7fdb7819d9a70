/-
  Walks over formula.Symbols and its two closures.
-/
import Derived.Test.YtikgjappablbhaaSymsWalk
import Derived.Test.YtikgjappablbhaaSymKey
namespace Go.Proofs.Ytikgjappablbhaa
open Go.RowKit

/-- The set of those that are there, as a map to true. -/
def seenF (l : List Sy) (s : Sy) : Option Value := if hasSy l s then some (.bool true) else none

theorem seenF_add (l : List Sy) (s y : Sy) : seenF (l ++ [s]) y = if y = s then some (.bool true) else seenF l y := by
  unfold seenF
  rw [hasSy_snoc]
  by_cases h : y = s
  · subst h; simp
  · have : ¬ s = y := fun e => h e.symm
    simp [h, this]

/-- What the two closures hold. -/
structure SymSt (w : World) (base bs bo be g : Nat) (v : Value) (l : List Sy) : Prop where
  hs : w.heap[bs]? = some (.cells #[.map (some g)] 58 (0, 0))
  ho : w.heap[bo]? = some (.cells #[v] 25 (0, 0))
  he : w.heap[be]? = some (.cells #[.func (.func 32) #[] #[.pointer (some ⟨bs, 0, none⟩), .pointer (some ⟨bo, 0, none⟩), .pointer (some ⟨be, 0, none⟩)]] 74 (0, 0))
  hm : MapF w g symV (seenF l)
  hv : Own w base 31 3 v (l.map svs)
  hg : base ≤ g
  hbs : base ≤ bs
  hbo : base ≤ bo
  hbe : base ≤ be

/-- What they may write. -/
def SymF (bo g : Nat) (v : Value) (k : Nat) : Prop := k = g ∨ k = bo ∨ v.ownBlock = some k

theorem SymSt.low {w w' : World} {base bs bo be g : Nat} {v : Value} {l : List Sy} (h : SymSt w base bs bo be g v l) (hb : Below w.heap.size w w') : SymSt w' base bs bo be g v l where
  hs := (hb.block _ (Array.getElem?_eq_some_iff.1 h.hs).1).trans h.hs
  ho := (hb.block _ (Array.getElem?_eq_some_iff.1 h.ho).1).trans h.ho
  he := (hb.block _ (Array.getElem?_eq_some_iff.1 h.he).1).trans h.he
  hm := h.hm.low hb
  hv := h.hv.low hb
  hg := h.hg
  hbs := h.hbs
  hbo := h.hbo
  hbe := h.hbe

def SymPost (base bs bo be g : Nat) (v : Value) (w : World) (l : List Sy) (e : Ending) (w' : World) : Prop :=
  ∃ v', e = .returned (.tuple #[]) ∧ SymSt w' base bs bo be g v' l ∧ Upd w w' (SymF bo g v) ∧ (v'.ownBlock = v.ownBlock ∨ ∀ i, v'.ownBlock = some i → w.heap.size ≤ i)

def SymMid (base bs bo be g : Nat) (v : Value) (w : World) (l : List Sy) (box : Array Value) (w' : World) : Prop :=
  ∃ v', SymSt w' base bs bo be g v' l ∧ Upd w w' (SymF bo g v) ∧ (v'.ownBlock = v.ownBlock ∨ ∀ i, v'.ownBlock = some i → w.heap.size < i) ∧ w'.heap[w.heap.size]? = some (.cells box 71 (0, 0))

theorem zeroB (w : World) : (zeroValue 4).run Try.prog w = .ok (.bool false) w := by kernel_rfl

theorem cellOf {w : World} {b : Nat} {v : Value} {t : TypeId} (h : w.heap[b]? = some (.cells #[v] t (0, 0))) : w.cell? ⟨b, 0, none⟩ = some v := by
  rw [cell_of_row w b 0 _ _ _ h]; rfl
theorem freeOf {w : World} {b : Nat} {v : Value} {t : TypeId} (h : w.heap[b]? = some (.cells #[v] t (0, 0))) : w.frozen? ⟨b, 0, none⟩ = false := frozen_of_row w b 0 _ _ h
theorem ltOf {w : World} {b : Nat} {o : Obj} (h : w.heap[b]? = some o) : b < w.heap.size := (Array.getElem?_eq_some_iff.1 h).1

theorem symF_step {w wr w1 : World} {bo g : Nat} {v0 v v1 : Value} (hol : ∀ i, SymF bo g v0 i → i < w.heap.size) (hup1 : Upd w wr (SymF bo g v0)) (hfr1 : v.ownBlock = v0.ownBlock ∨ ∀ i, v.ownBlock = some i → w.heap.size < i)
    (hup2 : Upd wr w1 (SymF bo g v)) (hfr2 : v1.ownBlock = v.ownBlock ∨ ∀ i, v1.ownBlock = some i → wr.heap.size ≤ i) (hsz : w.heap.size < wr.heap.size) :
    Upd w w1 (SymF bo g v0) ∧ (v1.ownBlock = v0.ownBlock ∨ ∀ i, v1.ownBlock = some i → w.heap.size < i) ∧ w1.heap[w.heap.size]? = wr.heap[w.heap.size]? := by
  refine ⟨hup1.trans hup2 (fun i hi => ?_), ?_, hup2.block _ hsz (fun hi => ?_)⟩
  · rcases hi with h | h | h
    · exact .inl (.inl h)
    · exact .inl (.inr (.inl h))
    · rcases hfr1 with h' | h'
      · exact .inl (.inr (.inr (by rw [← h']; exact h)))
      · exact .inr (Nat.le_of_lt (h' i h))
  · rcases hfr2 with h | h
    · rcases hfr1 with h' | h'
      · exact .inl (h.trans h')
      · exact .inr fun i hi => h' i (by rw [← h]; exact hi)
    · exact .inr fun i hi => Nat.lt_of_lt_of_le hsz (h i hi)
  · rcases hi with h | h | h
    · exact absurd (hol _ (.inl h)) (by omega)
    · exact absurd (hol _ (.inr (.inl h))) (by omega)
    · rcases hfr1 with h' | h'
      · exact absurd (hol _ (.inr (.inr (by rw [← h']; exact h)))) (by omega)
      · exact absurd (h' _ h) (by omega)

theorem SymSt.lts {w : World} {base bs bo be g : Nat} {v : Value} {l : List Sy} (h : SymSt w base bs bo be g v l) : ∀ i, SymF bo g v i → i < w.heap.size := by
  intro i hi
  rcases hi with rfl | rfl | hi
  · exact h.hm.lt
  · exact ltOf h.ho
  · exact (h.hv.lt i hi).2
theorem SymSt.ges {w : World} {base bs bo be g : Nat} {v : Value} {l : List Sy} (h : SymSt w base bs bo be g v l) : ∀ i, SymF bo g v i → base ≤ i := by
  intro i hi
  rcases hi with rfl | rfl | hi
  · exact h.hg
  · exact h.hbo
  · exact (h.hv.lt i hi).1

set_option maxHeartbeats 400000 in
theorem symExpr_any (d : Nat) : ∀ (b pred : Bool) (s : ByteArray) (xs : List Ex) (v2 v : Value) (l : List Sy) (B base bs bo be g : Nat) (w : World), htExs xs < d → Rd w B (.sl 3 (encExs xs)) v2 → B ≤ base → base ≤ w.heap.size →
    SymSt w base bs bo be g v l → l.length + nodesExs xs + 1 ≤ 1000000 →
    Calls Try.prog 32 #[.agg #[.bool b, .string s, v2], .bool pred, .pointer (some ⟨bs, 0, none⟩), .pointer (some ⟨bo, 0, none⟩), .pointer (some ⟨be, 0, none⟩)] w
      (SymPost base bs bo be g v w (symsEx pred l (.mk b s xs))) := by
  induction d with
  | zero => intro b pred s xs v2 v l B base bs bo be g w h; omega
  | succ d ih =>
  intro b pred s xs v2 v l B base bs bo be g w hd hr hB hbase hst hlen
  obtain ⟨A, c, rfl, hc, hn, hm⟩ := hr.sl_form
  rw [encExs_len] at hc hn hr ⊢
  have H3 := Lib.hid hr
  have Hih := Lib.hid ih
  clear hr ih
  unfold maxLen at hm
  have hcs := cellOf hst.hs
  have hco := cellOf hst.ho
  have hls := ltOf hst.hs
  have hlo := ltOf hst.ho
  have hfo := freeOf hst.ho
  have Hst := Lib.hid hst
  clear hst
  have hgd : ∀ x : Sy, (seenF l x).getD (.bool false) = .bool (hasSy l x) := fun x => by unfold seenF; cases hasSy l x <;> rfl
  have hlk := MapF.lookup ((Hst.out.hm.alloc (Obj.cells #[.bool b, .string s, .slice A xs.length c] 71)).alloc (Obj.cells #[.string s, .int .i64 xs.length, .bool pred] 31)) symK Try.underlying58 (zeroB _) (s, xs.length, pred)
  rw [hgd] at hlk
  unfold symV at hlk
  simp only at hlk
  clear hgd
  generalize hhas : hasSy l (s, xs.length, pred) = has at hlk
  have Hhas := Lib.hid hhas
  clear hhas
  cases b with
  | true =>
    go_enter Try.func32, Try.ntmps32
    go_upto_if 25 with (fail)
    go_cut [] (fun wx => SymMid base bs bo be g v w l #[.bool true, .string s, .slice A xs.length c] wx)
    case first =>
      go_wp2_with fail
      go_meet
      exact ⟨v, Hst.out.low (((Below.refl _ _).alloc (Nat.le_refl _) _).alloc (by simp) _), ((Upd.refl _ _).alloc _).alloc _, .inl rfl, by rw [Below.heap_alloc _ _ _ (by simp)]; exact heap_alloc_new w _⟩
    case rest =>
      have hl1 : l = l ∧ l.length ≤ l.length + 1 := ⟨rfl, by omega⟩
      have hsy : symsEx pred l (.mk true s xs) = symsExs false l xs := by rw [symsEx]; rfl
      have Hsy := Lib.hid hsy
      have hl1len : l.length ≤ l.length + 1 := by first | exact hl1 | exact hl1.2
      obtain ⟨v1, hst1, hup1, hfr1, hbox1⟩ := hcut
      have hbx := fun o => cell_of_row wc w.heap.size o _ _ _ hbox1
      have Hst1 := Lib.hid hst1
      have Hup1 := Lib.hid hup1
      have Hfr1 := Lib.hid hfr1
      have Hbox1 := Lib.hid hbox1
      have Hlts := Lib.hid Hst.out.lts
      have Hges := Lib.hid Hst.out.ges
      clear hst1 hup1 hfr1 hbox1 hl1 hsy hlk
      obtain ⟨wb, rfl⟩ : ∃ wb : World, wb = wc := ⟨_, rfl⟩
      go_wp2_with fail
      go_loopw [35] (fun i wr => ∃ k : Nat, k ≤ xs.length ∧ i = .int .i64 k ∧ ∃ u, SymSt wr base bs bo be g u (symsExs false l (xs.take k)) ∧ Upd w wr (SymF bo g v) ∧ (u.ownBlock = v.ownBlock ∨ ∀ i, u.ownBlock = some i → w.heap.size < i) ∧
        wr.heap[w.heap.size]? = some (.cells #[.bool true, .string s, .slice A xs.length c] 71 (0, 0))) (fun i _ => xs.length - (intOf i).toNat)
      case atStart => exact ⟨0, Nat.zero_le _, rfl, v1, Hst1.out, Hup1.out, Hfr1.out, Hbox1.out⟩
      case round =>
        clear Hst1 Hup1 Hfr1 Hbox1 hbx hcs hco hfo
        obtain ⟨k, hk, rfl, u, hst1, hupd, hfr, hbox⟩ := hrel
        have hsz : w.heap.size < wr.heap.size := ltOf hbox
        have hce := cellOf hst1.he
        have hle := ltOf hst1.he
        have Hst1 := Lib.hid hst1
        have Hup1 := Lib.hid hupd
        have Hfr1 := Lib.hid hfr
        have Hbox1 := Lib.hid hbox
        clear hst1 hupd hfr hbox
        by_cases hlt : k < xs.length
        · have hlow : Below base w wr := Hup1.out.toLow hbase (fun i hi => Hges.out i hi)
          obtain ⟨ab, off, b', s', ys, u2, rfl, hxk, hb, c0, c1, c2, hrd⟩ := (H3.out.low hlow hB).ex_at hlt
          obtain ⟨A2, cc2, rfl, _, _, _⟩ := hrd.sl_form
          have hht := htEx_le hlt
          rw [hxk] at hht
          simp only [htEx] at hht
          have hnt := nodesExs_take hlt
          rw [hxk] at hnt
          simp only [nodesEx] at hnt
          have hsl := symsExs_len false l (xs.take k)
          have hsn := symsExs_snoc false l xs k hlt
          rw [hxk] at hsn
          have Hsn := Lib.hid hsn
          have Hr := Lib.hid hrd
          clear hxk hrd hsn hlow
          go_wp2_with (go_at_call 32; refine (Hih.out b' false s' ys _ u (symsExs false l (xs.take k)) B base bs bo be g _ (by omega) (Hr.out.low (below_box wr _) (by omega)) hB (by simp; omega) (Hst1.out.low (below_box wr _)) (by omega)).mono ?_; rintro e w1 ⟨v1', rfl, hst2, hup2, hfr2⟩)
          go_roundw
          case rel =>
            have hup3 : Upd wr w1 (SymF bo g u) := ((Upd.refl wr (SymF bo g u)).alloc _).trans hup2 (fun i hi => .inl hi)
            have hfr3 : v1'.ownBlock = u.ownBlock ∨ ∀ i, v1'.ownBlock = some i → wr.heap.size ≤ i := hfr2.imp id (fun h i hi => by have := h i hi; simp at this; omega)
            obtain ⟨h1, h2, h3⟩ := symF_step Hlts.out Hup1.out Hfr1.out hup3 hfr3 hsz
            exact ⟨k + 1, by omega, by go_num, v1', by rw [Hsn.out]; exact hst2, h1, h2, h3.trans Hbox1.out⟩
          case measure => simp [intOf]; omega
        · obtain rfl : k = xs.length := by omega
          go_wp2_with fail
          go_end0
          refine ⟨u, rfl, ?_, Hup1.out, ?_⟩
          · rw [Hsy.out]
            have := Hst1.out
            rwa [List.take_length] at this
          · rcases Hfr1.out with h | h
            · exact .inl h
            · exact .inr fun i hi => Nat.le_of_lt (h i hi)
  | false =>
    go_enter Try.func32, Try.ntmps32
    go_upto_if 25 with (fail)
    go_cut [] (fun wx => SymMid base bs bo be g v w (addSy l (s, xs.length, pred)) #[.bool false, .string s, .slice A xs.length c] wx)
    case first =>
      cases has with
      | true =>
        go_wp2_with fail
        go_meet
        have hadd : addSy l (s, xs.length, pred) = l := by unfold addSy; rw [if_pos Hhas.out]
        rw [hadd]
        exact ⟨v, Hst.out.low (((Below.refl _ _).alloc (Nat.le_refl _) _).alloc (by simp) _), ((Upd.refl _ _).alloc _).alloc _, .inl rfl, by rw [Below.heap_alloc _ _ _ (by simp)]; exact heap_alloc_new w _⟩
      | false =>
        have hadd : addSy l (s, xs.length, pred) = l ++ [(s, xs.length, pred)] := by unfold addSy; rw [if_neg (by rw [Hhas.out]; simp)]
        have Hadd := Lib.hid hadd
        clear hadd
        have hne1 : bo ≠ g := by
          rintro rfl
          obtain ⟨es, ck, kv, hg0, _⟩ := Hst.out.hm
          rw [Hst.out.ho] at hg0
          cases hg0
        have hlg := Hst.out.hm.lt
        generalize hW : (w.alloc (Obj.cells #[.bool false, .string s, .slice A xs.length c] 71)).alloc (Obj.cells #[.string s, .int .i64 xs.length, .bool pred] 31) = W at *
        have hWz : W.heap.size = w.heap.size + 2 := by rw [← hW]; simp
        have hWb : Below w.heap.size w W := by rw [← hW]; exact ((Below.refl _ _).alloc (Nat.le_refl _) _).alloc (by simp) _
        have hW1 : W.heap[w.heap.size]? = some (.cells #[.bool false, .string s, .slice A xs.length c] 71 (0, 0)) := by
          rw [← hW, Below.heap_alloc _ _ _ (by simp)]; exact heap_alloc_new w _
        have hW2 : W.heap[w.heap.size + 1]? = some (.cells #[.string s, .int .i64 xs.length, .bool pred] 31 (0, 0)) := by
          rw [← hW]
          have := heap_alloc_new (w.alloc (Obj.cells #[.bool false, .string s, .slice A xs.length c] 71)) (Obj.cells #[.string s, .int .i64 xs.length, .bool pred] 31)
          simpa using this
        clear hW
        have hSt := Hst.out.low hWb
        have e1 := cellOf hSt.hs
        have e2 := cellOf hSt.ho
        have e3 := freeOf hSt.ho
        have e4 := fun o => cell_of_row W (w.heap.size + 1) o _ _ _ hW2
        have HSt := Lib.hid hSt
        have HW1 := Lib.hid hW1
        have HW2 := Lib.hid hW2
        have HWb := Lib.hid hWb
        clear hSt hW1 hW2 hWb hcs hco hfo
        go_wp2_with (first
          | (at_mapUpdate
             refine wpList_mapStore rfl (.tmp 26) (.tmp 27) (.const (.bool true)) rfl symK Try.underlying58 rfl (s, xs.length, pred) rfl (.bool true) rfl HSt.out.hm ?_
             intro w1 hm1 hu1
             have hol : ∀ i, v.ownBlock = some i → i < w.heap.size := fun i hi => (Hst.out.hv.lt i hi).2
             have b1 : w1.heap[bo]? = some (.cells #[v] 25 (0, 0)) := (hu1.block _ (by omega) hne1).trans HSt.out.ho
             have b2 : w1.heap[w.heap.size + 1]? = some (.cells #[.string s, .int .i64 xs.length, .bool pred] 31 (0, 0)) := (hu1.block _ (by omega) (by omega)).trans HW2.out
             have b3 : w1.heap[w.heap.size]? = some (.cells #[.bool false, .string s, .slice A xs.length c] 71 (0, 0)) := (hu1.block _ (by omega) (by omega)).trans HW1.out
             have hz1 := hu1.size
             have hown1 : Own w1 base 31 3 v (l.map svs) := HSt.out.hv.upd hu1 (fun i hi => by
               rintro rfl
               obtain ⟨es, ck, kv, hg0, _⟩ := HSt.out.hm
               exact HSt.out.hv.ne_map hg0 hi)
             have e1' := cellOf b1
             have e2' := fun o => cell_of_row w1 (w.heap.size + 1) o _ _ _ b2
             have B1 := Lib.hid b1
             have B2 := Lib.hid b2
             have B3 := Lib.hid b3
             have Hol := Lib.hid hol
             have Hown1 := Lib.hid hown1
             clear b1 b2 b3 e1 e2 e3 e4 hol hown1)
          | (at_builtin
             refine wpList_push _ rfl (.tmp 28) (.tmp 30) _ rfl symT (base := base) (v := v) (rows := l.map svs) rfl (by exact Hown1.out.alloc _) (g := w1.heap.size) (cells := #[.string s, .int .i64 xs.length, .bool pred]) rfl (heap_alloc_new w1 _) rfl (by simp [Value.oneCell']) (by rw [List.length_map]; omega) (by rw [List.length_map]; unfold maxLen; omega) (by simp; omega) ?_
             intro v2 w2 hown2 hup2 hat2
             obtain ⟨A2, c2, hv2, _, _⟩ := hown2.form
             rw [List.length_append, List.length_map, List.length_singleton] at hv2
             subst hv2
             have b4 : w2.heap[bo]? = some (.cells #[v] 25 (0, 0)) := by
               rw [hup2.block bo (by simp; omega) (Hown1.out.ne_cells B1.out (by decide)), Below.heap_alloc _ _ _ (by omega)]
               exact B1.out
             have e4' := cellOf b4
             have e5' := freeOf b4
             have B4 := Lib.hid b4
             have Hown2 := Lib.hid hown2
             have Hup2 := Lib.hid hup2
             have Hat2 := Lib.hid hat2
             clear b4 hown2 hup2 hat2))
        go_meet
        rw [Hadd.out]
        have hUa : Upd W (w1.alloc (.cells #[.string s, .int .i64 xs.length, .bool pred] 31)) (SymF bo g v) := (hu1.more (fun i hi => .inl (.inl hi))).alloc _
        have hUb : Upd W w2 (SymF bo g v) := hUa.trans Hup2.out (fun i hi => .inl (.inr (.inr hi)))
        have hU : Upd W (w2.setCell ⟨bo, 0, none⟩ (.slice A2 (l.length + 1) c2)) (SymF bo g v) := hUb.setCell _ _ (.inl (.inr (.inl rfl)))
        have hz2 := hUb.size
        have hnF : ∀ {b : Nat} {o : Array Value} {tt : TypeId}, W.heap[b]? = some (.cells o tt (0, 0)) → tt ≠ 25 → tt ≠ 31 → ¬ SymF bo g v b := by
          intro b o tt hb h1 h2 hF
          rcases hF with rfl | rfl | hF
          · obtain ⟨es, ck, kv, hg0, _⟩ := HSt.out.hm
            rw [hb] at hg0; cases hg0
          · rw [HSt.out.ho] at hb; injection hb with hb; injection hb with _ hb; exact h1 hb.symm
          · exact HSt.out.hv.ne_cells hb h2 hF
        have hvo : (Value.slice A2 (l.length + 1) c2).ownBlock ≠ some bo := Hown2.out.ne_cells B4.out (by decide)
        have hgv : v.ownBlock ≠ some g := by
          obtain ⟨es, ck, kv, hg0, _⟩ := HSt.out.hm
          exact HSt.out.hv.ne_map hg0
        refine ⟨_, ⟨(hU.block bs (by omega) (hnF HSt.out.hs (by decide) (by decide))).trans HSt.out.hs, heap_setCell_same w2 bo 0 _ _ _ B4.out, (hU.block be (ltOf HSt.out.he) (hnF HSt.out.he (by decide) (by decide))).trans HSt.out.he, ?_, ?_, Hst.out.hg, Hst.out.hbs, Hst.out.hbo, Hst.out.hbe⟩, ?_, ?_, ?_⟩
        · have m1 : MapF (w1.alloc (.cells #[.string s, .int .i64 xs.length, .bool pred] 31)) g symV (seenF (l ++ [(s, xs.length, pred)])) := (hm1.congr (fun y => seenF_add l _ y)).alloc _
          have m2 := m1.upd Hup2.out hgv
          exact m2.upd ((Upd.refl w2 (fun k => k = bo)).setCell ⟨bo, 0, none⟩ _ (.inl rfl)) (fun e => hne1 e.symm)
        · rw [List.map_append]
          exact Hown2.out.upd ((Upd.refl w2 (fun k => k = bo)).setCell ⟨bo, 0, none⟩ _ (.inl rfl)) (fun i hi e => hvo (by rw [hi, e]))
        · exact (Upd.low HWb.out (SymF bo g v)).trans hU (fun i hi => .inl hi)
        · rcases Hat2.out with h | h
          · exact .inl h
          · refine .inr fun i hi => ?_
            rw [h] at hi
            injection hi with hi
            simp at hi
            omega
        · exact (hU.block w.heap.size (by omega) (hnF HW1.out (by decide) (by decide))).trans HW1.out
    case rest =>
      have hl1 := addSy_len l (s, xs.length, pred)
      have hsy : symsEx pred l (.mk false s xs) = symsExs false (addSy l (s, xs.length, pred)) xs := by rw [symsEx]; rfl
      generalize addSy l (s, xs.length, pred) = l1 at hcut hl1 hsy
      have Hsy := Lib.hid hsy
      have hl1len : l1.length ≤ l.length + 1 := by first | exact hl1 | exact hl1.2
      obtain ⟨v1, hst1, hup1, hfr1, hbox1⟩ := hcut
      have hbx := fun o => cell_of_row wc w.heap.size o _ _ _ hbox1
      have Hst1 := Lib.hid hst1
      have Hup1 := Lib.hid hup1
      have Hfr1 := Lib.hid hfr1
      have Hbox1 := Lib.hid hbox1
      have Hlts := Lib.hid Hst.out.lts
      have Hges := Lib.hid Hst.out.ges
      clear hst1 hup1 hfr1 hbox1 hl1 hsy hlk
      obtain ⟨wb, rfl⟩ : ∃ wb : World, wb = wc := ⟨_, rfl⟩
      go_wp2_with fail
      go_loopw [35] (fun i wr => ∃ k : Nat, k ≤ xs.length ∧ i = .int .i64 k ∧ ∃ u, SymSt wr base bs bo be g u (symsExs false l1 (xs.take k)) ∧ Upd w wr (SymF bo g v) ∧ (u.ownBlock = v.ownBlock ∨ ∀ i, u.ownBlock = some i → w.heap.size < i) ∧
        wr.heap[w.heap.size]? = some (.cells #[.bool false, .string s, .slice A xs.length c] 71 (0, 0))) (fun i _ => xs.length - (intOf i).toNat)
      case atStart => exact ⟨0, Nat.zero_le _, rfl, v1, Hst1.out, Hup1.out, Hfr1.out, Hbox1.out⟩
      case round =>
        clear Hst1 Hup1 Hfr1 Hbox1 hbx hcs hco hfo
        obtain ⟨k, hk, rfl, u, hst1, hupd, hfr, hbox⟩ := hrel
        have hsz : w.heap.size < wr.heap.size := ltOf hbox
        have hce := cellOf hst1.he
        have hle := ltOf hst1.he
        have Hst1 := Lib.hid hst1
        have Hup1 := Lib.hid hupd
        have Hfr1 := Lib.hid hfr
        have Hbox1 := Lib.hid hbox
        clear hst1 hupd hfr hbox
        by_cases hlt : k < xs.length
        · have hlow : Below base w wr := Hup1.out.toLow hbase (fun i hi => Hges.out i hi)
          obtain ⟨ab, off, b', s', ys, u2, rfl, hxk, hb, c0, c1, c2, hrd⟩ := (H3.out.low hlow hB).ex_at hlt
          obtain ⟨A2, cc2, rfl, _, _, _⟩ := hrd.sl_form
          have hht := htEx_le hlt
          rw [hxk] at hht
          simp only [htEx] at hht
          have hnt := nodesExs_take hlt
          rw [hxk] at hnt
          simp only [nodesEx] at hnt
          have hsl := symsExs_len false l1 (xs.take k)
          have hsn := symsExs_snoc false l1 xs k hlt
          rw [hxk] at hsn
          have Hsn := Lib.hid hsn
          have Hr := Lib.hid hrd
          clear hxk hrd hsn hlow
          go_wp2_with (go_at_call 32; refine (Hih.out b' false s' ys _ u (symsExs false l1 (xs.take k)) B base bs bo be g _ (by omega) (Hr.out.low (below_box wr _) (by omega)) hB (by simp; omega) (Hst1.out.low (below_box wr _)) (by omega)).mono ?_; rintro e w1 ⟨v1', rfl, hst2, hup2, hfr2⟩)
          go_roundw
          case rel =>
            have hup3 : Upd wr w1 (SymF bo g u) := ((Upd.refl wr (SymF bo g u)).alloc _).trans hup2 (fun i hi => .inl hi)
            have hfr3 : v1'.ownBlock = u.ownBlock ∨ ∀ i, v1'.ownBlock = some i → wr.heap.size ≤ i := hfr2.imp id (fun h i hi => by have := h i hi; simp at this; omega)
            obtain ⟨h1, h2, h3⟩ := symF_step Hlts.out Hup1.out Hfr1.out hup3 hfr3 hsz
            exact ⟨k + 1, by omega, by go_num, v1', by rw [Hsn.out]; exact hst2, h1, h2, h3.trans Hbox1.out⟩
          case measure => simp [intOf]; omega
        · obtain rfl : k = xs.length := by omega
          go_wp2_with fail
          go_end0
          refine ⟨u, rfl, ?_, Hup1.out, ?_⟩
          · rw [Hsy.out]
            have := Hst1.out
            rwa [List.take_length] at this
          · rcases Hfr1.out with h | h
            · exact .inl h
            · exact .inr fun i hi => Nat.le_of_lt (h i hi)

end Go.Proofs.Ytikgjappablbhaa
