/-
  Walks over both Commons.
-/
import Derived.Test.YtikgjappablbhaaSineA
import Derived.Test.YtikgjappablbhaaFmWalk
namespace Go.Proofs.Ytikgjappablbhaa
open Go.RowKit

/-- What Common answers. -/
def CommonRes (w : World) (l : List En) (e : Ending) (w' : World) : Prop :=
  ∃ v n, e = .returned (.tuple #[v, n]) ∧ Own w' w.heap.size 31 3 v ((allSy l).map svs) ∧ Own w' w.heap.size 3 1 n ((commons l).map nvs) ∧ Below w.heap.size w w'

theorem few_nodes {l : List En} (h : Few l) : ∀ x ∈ l, nodesFm x.form ≤ 3000 := fun x hx => (nodes_of_not_great (h.2 x hx)).1
theorem allSy_take_len {l : List En} (h : Few l) (k : Nat) : (allSy (l.take k)).length ≤ 900000 := by
  have h1 := allSy_len (l := l.take k) (N := 3000) (fun x hx => few_nodes h x (List.mem_of_mem_take hx))
  have h2 : (l.take k).length ≤ 300 := by rw [List.length_take]; have := h.1; omega
  have h3 : (l.take k).length * 3000 ≤ 300 * 3000 := Nat.mul_le_mul_right _ h2
  omega

def b2n (b : Bool) : Nat := if b then 1 else 0
theorem b2n_le (b : Bool) : b2n b ≤ 1 := by cases b <;> simp [b2n]
/-- Does it count for a symbol, as far as its first k symbols go? -/
def inPart (x : Option En) (k : Nat) (s : Sy) : Bool := match x with | some x => !isGoal x.role && hasSy ((own x).take k) s | none => false
theorem inPart_some (x : En) (k : Nat) (s : Sy) : inPart (some x) k s = (!isGoal x.role && hasSy ((own x).take k) s) := rfl
/-- What stands in the counts behind i entries, and k symbols of the next one. -/
def part (l : List En) (i k : Nat) (s : Sy) : Nat := common (l.take i) s + b2n (inPart l[i]? k s)
theorem part_zero (l : List En) (i : Nat) (s : Sy) : part l i 0 s = common (l.take i) s := by
  unfold part inPart
  cases l[i]? <;> simp [hasSy, b2n]
theorem common_snoc' (l : List En) (i : Nat) (hi : i < l.length) (s : Sy) : common (l.take (i + 1)) s = common (l.take i) s + b2n (counts s l[i]) := by
  rw [List.take_succ_eq_append_getElem hi, common_snoc]; rfl
theorem part_all (l : List En) (i : Nat) (hi : i < l.length) (k : Nat) (hk : (own l[i]).length ≤ k) (s : Sy) : part l i k s = common (l.take (i + 1)) s := by
  rw [common_snoc' l i hi, part, List.getElem?_eq_getElem hi, inPart_some, List.take_of_length_le hk, counts]
theorem part_goal (l : List En) (i : Nat) (hi : i < l.length) (k : Nat) (hg : isGoal l[i].role = true) (s : Sy) : part l i k s = common (l.take (i + 1)) s := by
  rw [common_snoc' l i hi, part, List.getElem?_eq_getElem hi, inPart_some, counts, hg]
  simp
theorem part_succ (l : List En) (i : Nat) (hi : i < l.length) (k : Nat) (hk : k < (own l[i]).length) (hg : isGoal l[i].role = false) (s : Sy) :
    part l i (k + 1) s = part l i k s + if (own l[i])[k] = s then 1 else 0 := by
  rw [part, part, List.getElem?_eq_getElem hi, inPart_some, inPart_some, List.take_succ_eq_append_getElem hk, hasSy_snoc, hg]
  simp only [Bool.not_false, Bool.true_and]
  by_cases h : (own l[i])[k] = s
  · have : hasSy ((own l[i]).take k) s = false := by
      rw [hasSy_not]
      intro hm
      rw [List.mem_take_iff_getElem] at hm
      obtain ⟨j, hj, he⟩ := hm
      have hnd := own_nodup l[i]
      have := (List.getElem_inj hnd).1 (he.trans h.symm)
      omega
    simp [this, h, b2n]
  · simp [h]
theorem part_le (l : List En) (i k : Nat) (s : Sy) : part l i k s ≤ l.length + 1 := by
  unfold part
  have := common_le (l.take i) s
  have h2 : (l.take i).length ≤ l.length := List.length_take_le' _ _
  have := b2n_le (inPart l[i]? k s)
  omega

theorem idxSy_mem {S : List Sy} {s : Sy} (h : s ∈ S) : ∃ j : Nat, ∃ hj : j < S.length, idxSy S s = j ∧ S[j] = s := by
  obtain ⟨j, hj, he⟩ := List.getElem_of_mem h
  induction j using Nat.strongRecOn with
  | _ j ih =>
    by_cases hex : ∃ i, ∃ hi : i < S.length, i < j ∧ S[i] = s
    · obtain ⟨i, hi, hlt, hs⟩ := hex
      exact ih i hlt hi hs
    · refine ⟨j, hj, idxSy_at hj he ?_, he⟩
      intro x hx hxs
      rw [List.mem_take_iff_getElem] at hx
      obtain ⟨i, hi, hxi⟩ := hx
      exact hex ⟨i, by omega, by omega, hxi.trans hxs⟩

theorem set_part (l : List En) (i k : Nat) (hi : i < l.length) {O : List Sy} (hO : own l[i] = O) (hk : k < O.length) (hg : isGoal l[i].role = false) {S : List Sy} (hnd : S.Nodup) {j : Nat} (hj : j < S.length) (hjs : S[j] = O[k]) :
    (S.map (part l i k)).set j (part l i k S[j] + 1) = S.map (part l i (k + 1)) := by
  subst hO
  apply List.ext_getElem
  · simp
  · intro m h1 h2
    simp only [List.getElem_set, List.getElem_map]
    rw [part_succ l i hi k hk hg]
    by_cases h : j = m
    · subst h; simp [hjs]
    · have : ¬ (own l[i])[k] = S[m]'(by simpa using h2) := fun e => h ((List.getElem_inj hnd).1 (hjs.trans e))
      simp [h, this]

theorem nvs_map (L : List Nat) : L.map nvs = (L.map fun n : Nat => Value.int .i64 (n : Int)).map fun u => [u] := by
  rw [List.map_map]; rfl

theorem zero_rows (S : List Sy) (f : Sy → Nat) (h : ∀ s, f s = 0) : List.replicate S.length (Value.int .i64 0) = (S.map fun s => nvs (f s)).flatten := by
  induction S with
  | nil => rfl
  | cons s S ih => simp [nvs, h, List.replicate_succ] at ih ⊢; exact ih

set_option maxHeartbeats 1000000 in
theorem refCommon_any (l : List En) (v : Value) (B : Nat) (w : World) (hr : Rd w B (.sl 7 (l.map encEn)) v) (hB : B ≤ w.heap.size) (hf : Few l) :
    Calls Try.prog 11 #[v] w (CommonRes w l) := by
  obtain ⟨A, c, rfl, hc, hn, hm⟩ := hr.sl_form
  rw [List.length_map] at hc hn hr ⊢
  have Hr := Lib.hid hr
  have Hfw := Lib.hid hf
  have hl3 := hf.1
  clear hr hf
  unfold maxLen at hm
  obtain ⟨i0, hi0, hz0, hz1, hz2⟩ := info_parts (P := Try.prog) (e := 3) (z := .int .i64 0) (size := 1) (bytes := 8) (by kernel_rfl)
  go_enter Try.func11, Try.ntmps11
  go_wp2_with fail
  go_loopw [4, 5] (fun u i wr => ∃ k : Nat, k ≤ l.length ∧ i = .int .i64 k ∧ Own wr w.heap.size 31 3 u ((allSy (l.take k)).map svs) ∧ Below w.heap.size w wr) (fun _ i _ => l.length - (intOf i).toNat)
  case atStart => exact ⟨0, Nat.zero_le _, rfl, Own.nil _ _ _ _, Below.refl _ _⟩
  case round =>
    obtain ⟨k, hk, rfl, hown, hbel⟩ := hrel
    have hsz := hbel.size
    have hal := allSy_take_len Hfw.out k
    have Hown := Lib.hid hown
    have Hbel := Lib.hid hbel
    clear hown hbel
    by_cases hlt : k < l.length
    · obtain ⟨ab, off, o, vv, tt, aa, rfl, hb, c0, c1, c2, c3, c4, c5, c6, hrd⟩ := (Hr.out.low Hbel.out hB).en_at hlt
      have hnf := few_nodes Hfw.out l[k] (List.getElem_mem hlt)
      have Hrd := Lib.hid hrd
      clear hrd c0 c1 c2
      go_wp2_with (go_at_call 16; refine (symbols_any _ _ _ _ _ _ _ (allSy (l.take k)) B w.heap.size _ (Nat.le_refl _) Hrd.out hB (by omega) Hown.out (by omega)).mono ?_; rintro e w1 ⟨v1, rfl, hown2, hup2, hfr2⟩)
      go_roundw
      case rel =>
        refine ⟨k + 1, by omega, by go_num, ?_, Hbel.out.trans (hup2.toLow hsz (fun i hi => (Hown.out.lt i hi).1))⟩
        rw [List.take_succ_eq_append_getElem hlt, allSy_snoc, ← symsFm_own]
        exact hown2
      case measure => simp [intOf]; omega
    · have hk2 : k = l.length := by omega
      rw [hk2, List.take_length] at Hown
      clear hk2 hal
      have hal := allSy_take_len Hfw.out l.length
      rw [List.take_length] at hal
      generalize hS : allSy l = S at *
      have HS := Lib.hid hS
      obtain ⟨As, cs, rfl, hcs, hms⟩ := Hown.out.form
      rw [List.length_map] at hcs Hown
      obtain ⟨wo, rfl⟩ : ∃ wo : World, wo = wr := ⟨_, rfl⟩
      clear hS
      go_wp2_with (first
        | (at_make
           (refine wpList_make_full _ rfl (.tmp 24) (.tmp 24) _ rfl w.heap.size 3 i0 _ 1 Try.underlying26 hi0 hz0 hz1 .i64 .i64 _ _ S.length rfl rfl rfl rfl (by rw [hz2]; omega) (by unfold maxLen; omega) hsz ?_)
           intro w1 hown1 hg1))
      have hzero : (madeCells (Value.int .i64 0).cells (S.length * 1)).toList = (S.map fun s => nvs (part l 0 0 s)).flatten := by
        rw [show (Value.int .i64 0).cells = #[Value.int .i64 0] from rfl, toList_madeCells_one, Nat.mul_one]
        exact zero_rows S _ (fun s => by rw [part_zero]; simp [common])
      have hownN : Own w1 w.heap.size 3 1 (.slice (some ⟨wo.heap.size, 0, none⟩) S.length S.length) ((S.map (part l 0 0)).map nvs) := by
        refine ⟨?_, ?_⟩
        · rw [hzero] at hown1
          simpa [List.map_map, Function.comp_def] using hown1
        · intro r hr
          obtain ⟨n, _, rfl⟩ := List.mem_map.1 hr
          rfl
      have hownS : Own w1 w.heap.size 31 3 (.slice As S.length cs) (S.map svs) := Hown.out.upd (Upd.grown hg1) (by simp)
      have hbel1 : Below w.heap.size w w1 := Hbel.out.trans ((Upd.grown hg1).toLow hsz (by simp))
      have Hn0 := Lib.hid hownN
      have Hs0 := Lib.hid hownS
      have Hb0 := Lib.hid hbel1
      have hz1 : wo.heap.size < w1.heap.size := (hownN.lt wo.heap.size rfl).2
      clear hownN hownS hbel1 hown1 hg1 hzero
      obtain ⟨wq, rfl⟩ : ∃ wq : World, wq = w1 := ⟨_, rfl⟩
      go_loopw [7] (fun i wr => ∃ k : Nat, k ≤ l.length ∧ i = .int .i64 k ∧ Own wr w.heap.size 3 1 (.slice (some ⟨wo.heap.size, 0, none⟩) S.length S.length) ((S.map (part l k 0)).map nvs) ∧ Own wr w.heap.size 31 3 (.slice As S.length cs) (S.map svs) ∧ Below w.heap.size w wr) (fun i _ => l.length - (intOf i).toNat)
      case atStart => exact ⟨0, Nat.zero_le _, rfl, Hn0.out, Hs0.out, Hb0.out⟩
      case round =>
        clear Hn0 Hs0 Hb0 hz1
        obtain ⟨k, hk, rfl, hown, hownS, hbel⟩ := hrel
        have hsz := hbel.size
        have Hn0 := Lib.hid hown
        have Hs0 := Lib.hid hownS
        have Hbel := Lib.hid hbel
        clear hown hbel hownS
        by_cases hlt : k < l.length
        · obtain ⟨ab, off, o, vv, tt, aa, rfl, hb, c0, c1, c2, c3, c4, c5, c6, hrd⟩ := (Hr.out.low Hbel.out hB).en_at hlt
          have hnf := few_nodes Hfw.out l[k] (List.getElem_mem hlt)
          have Hrd := Lib.hid hrd
          clear hrd
          by_cases hg : isGoal l[k].role = true
          · go_wp2_with (go_at_call 23; refine (refGoal_any _ _ _ _ _ _ _ _).mono ?_; rintro e w1 ⟨rfl, hb1⟩)
            go_roundw
            case rel =>
              have hp : ∀ s, part l (k + 1) 0 s = part l k 0 s := fun s => by rw [part_goal l k hlt 0 hg, part_zero]
              exact ⟨k + 1, by omega, by go_num, by rw [show part l (k + 1) 0 = part l k 0 from funext hp]; exact Hn0.out.low hb1, Hs0.out.low hb1, Hbel.out.trans (hb1.mono hsz)⟩
            case measure => simp [intOf]; omega
          · rw [Bool.not_eq_true] at hg
            obtain ⟨w1, hw1⟩ : ∃ w1 : World, w1 = wr := ⟨_, rfl⟩
            go_wp2_with (first
              | (go_at_call 23
                 refine (refGoal_any _ _ _ _ _ _ _ _).mono ?_
                 rintro e w2 ⟨rfl, hb2⟩
                 have hz2 := hb2.size
                 have hcc := fun o => hb2.cell (p := ⟨ab, o, none⟩) (by simp; omega)
                 have d3 := (hcc _).trans c3
                 have d4 := (hcc _).trans c4
                 have d5 := (hcc _).trans c5
                 have d6 := (hcc _).trans c6
                 clear hcc)
              | (go_at_call 16
                 refine (symbols_any _ _ _ _ _ _ _ [] B w.heap.size _ (Nat.le_refl _) (Hrd.out.low hb2 (by omega)) hB (by omega) (Own.nil _ _ _ _) (by simp; omega)).mono ?_
                 rintro e w3 ⟨vo, rfl, hown3, hup3, hfr3⟩))
            have hbelw : Below w.heap.size w w3 := (Hbel.out.trans (hb2.mono hsz)).trans (hup3.toLow (by omega) (fun i hi => by cases hi))
            have hNs : Own w3 w.heap.size 3 1 (.slice (some ⟨wo.heap.size, 0, none⟩) S.length S.length) ((S.map (part l k 0)).map nvs) := (Hn0.out.low hb2).upd hup3 (fun i _ h => by cases h)
            have hSs : Own w3 w.heap.size 31 3 (.slice As S.length cs) (S.map svs) := (Hs0.out.low hb2).upd hup3 (fun i _ h => by cases h)
            have hfv : ∀ i, vo.ownBlock = some i → w2.heap.size ≤ i := by
              rcases hfr3 with h | h
              · intro i hi; rw [h] at hi; cases hi
              · exact h
            have hlo := own_len l[k]
            change Own w3 w.heap.size 31 3 vo ((own l[k]).map svs) at hown3
            obtain ⟨Ao, co, hvo, hco, hmo⟩ := hown3.form
            rw [List.length_map] at hvo hco
            subst hvo
            unfold maxLen at hmo
            generalize hO : own l[k] = O at *
            have HO := Lib.hid hO
            have Hn1 := Lib.hid hNs
            have Hs1 := Lib.hid hSs
            have Ho1 := Lib.hid hown3
            have Hb1 := Lib.hid hbelw
            have Hfv := Lib.hid hfv
            clear hO hNs hSs hown3 hbelw hfv hfr3 hup3 hb2 Hn0 Hs0 Hbel hw1 w1
            obtain ⟨wp, rfl⟩ : ∃ wp : World, wp = w3 := ⟨_, rfl⟩
            go_loopw [9] (fun i wr => ∃ k2 : Nat, k2 ≤ O.length ∧ i = .int .i64 k2 ∧ Own wr w.heap.size 3 1 (.slice (some ⟨wo.heap.size, 0, none⟩) S.length S.length) ((S.map (part l k k2)).map nvs) ∧ Own wr w.heap.size 31 3 (.slice As S.length cs) (S.map svs) ∧
              Own wr w.heap.size 31 3 (.slice Ao O.length co) (O.map svs) ∧ Below w.heap.size w wr) (fun i _ => O.length - (intOf i).toNat)
            case atStart => exact ⟨0, Nat.zero_le _, rfl, Hn1.out, Hs1.out, Ho1.out, Hb1.out⟩
            case round =>
              clear Hn1 Hs1 Ho1 Hb1
              obtain ⟨k2, hk2, rfl, hN, hSS, hOO, hbel⟩ := hrel
              have hz4 := hbel.size
              have Hn2 := Lib.hid hN
              have Hs2 := Lib.hid hSS
              have Ho2 := Lib.hid hOO
              have Hb2 := Lib.hid hbel
              clear hN hSS hOO hbel
              by_cases hlt2 : k2 < O.length
              · obtain ⟨go, rfl, hbo, hgo, e0, e1, e2⟩ := Ho2.out.sy_at hlt2
                have hmem : O[k2] ∈ S := by
                  rw [← HS.out, mem_allSy]
                  exact ⟨l[k], List.getElem_mem hlt, by rw [HO.out]; exact List.getElem_mem hlt2⟩
                obtain ⟨j, hj, hidx, hSj⟩ := idxSy_mem hmem
                have hrs : Rd wr wr.heap.size (.sl 3 (S.map encSy)) (.slice As S.length cs) := by
                  have := Hs2.out.rd (by rw [List.length_map]; omega)
                  rwa [encSy_svs] at this
                have Hrs := Lib.hid hrs
                have Hidx := Lib.hid hidx
                have HSj := Lib.hid hSj
                have hpl := part_le l k k2 S[j]
                clear hmem hrs hidx hSj
                go_wp2_with (first
                  | (go_at_call 24
                     refine (at_any S O[k2] _ _ _ Hrs.out (Nat.le_refl _)).mono ?_
                     rintro e w4 ⟨rfl, hb4⟩
                     rw [Hidx.out]
                     obtain ⟨gn, hgn, hbn, hln, cn, fn⟩ := (Hn2.out.low hb4).row_at (k := j) (by simpa using hj) (by omega)
                     injection hgn with hgn
                     injection hgn with hgn _ _
                     subst hgn
                     have cn0 := cn 0 (by omega)
                     have fn0 := fn 0 (by omega)
                     simp only [List.getElem_map, nvs, List.getElem_cons_zero, Nat.mul_one, Nat.add_zero] at cn0 fn0
                     clear cn fn))
                go_roundw
                case rel =>
                  refine ⟨k2 + 1, by omega, by go_num, ?_, ?_, ?_, ?_⟩
                  · have h1 := Hn2.out.low hb4
                    rw [nvs_map] at h1
                    have h2 := h1.set1 (j := j) (.int .i64 ((part l k k2 S[j] : Nat) + 1 : Int))
                    have hnd : S.Nodup := by rw [← HS.out]; exact allSy_nodup l
                    have h3 : (S.map (part l k (k2 + 1))).map nvs = (((S.map (part l k k2)).map fun n : Nat => Value.int .i64 (n : Int)).set j (.int .i64 ((part l k k2 S[j] : Nat) + 1 : Int))).map fun u => [u] := by
                      have hsp := set_part l k k2 hlt HO.out hlt2 hg hnd hj HSj.out
                      have hms := List.map_set (f := fun n : Nat => Value.int .i64 (n : Int)) (l := S.map (part l k k2)) (i := j) (a := part l k k2 S[j] + 1)
                      rw [hsp] at hms
                      rw [nvs_map, hms]
                      rfl
                    rw [h3]
                    exact h2
                  · exact (Hs2.out.low hb4).upd ((Upd.refl w4 (fun i => i = wo.heap.size)).setCell _ _ (.inl rfl)) (fun i hi e => by
                      have := (Hn2.out.low hb4).ne_own (Hs2.out.low hb4) (by decide) wo.heap.size rfl
                      exact this (by rw [hi, e]))
                  · exact (Ho2.out.low hb4).upd ((Upd.refl w4 (fun i => i = wo.heap.size)).setCell _ _ (.inl rfl)) (fun i hi e => by
                      have := (Hn2.out.low hb4).ne_own (Ho2.out.low hb4) (by decide) wo.heap.size rfl
                      exact this (by rw [hi, e]))
                  · exact (Hb2.out.trans (hb4.mono hz4)).setCell (by simp; omega) _
                case measure => simp [intOf]; omega
              · have hk3 : O.length ≤ k2 := by omega
                have hp : ∀ s, part l k k2 s = part l (k + 1) 0 s := fun s => by rw [part_all l k hlt k2 (by rw [HO.out]; exact hk3), part_zero]
                have Hp := Lib.hid hp
                clear hp
                go_wp2_with fail
                go_roundw
                case rel => exact ⟨k + 1, by omega, by go_num, by rw [← show part l k k2 = part l (k + 1) 0 from funext Hp.out]; exact Hn2.out, Hs2.out, Hb2.out⟩
                case measure => simp [intOf]; omega
        · have hk3 : l.length ≤ k := by omega
          go_wp2_with fail
          go_ret2
          refine ⟨_, _, rfl, ?_, ?_, Hbel.out⟩
          · rw [HS.out]; exact Hs0.out
          · have := Hn0.out
            have hp : ∀ s, part l k 0 s = common l s := fun s => by rw [part_zero, List.take_of_length_le hk3]
            rw [show part l k 0 = common l from funext hp] at this
            rw [commons, HS.out]
            exact this

end Go.Proofs.Ytikgjappablbhaa
