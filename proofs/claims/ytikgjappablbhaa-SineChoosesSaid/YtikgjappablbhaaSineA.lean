/-
  Walks over sine: goal (both), the sets' add (both), row, in.
-/
import Derived.Test.YtikgjappablbhaaSymsProg2
import Derived.Test.YtikgjappablbhaaSineSpec
namespace Go.Proofs.Ytikgjappablbhaa
open Go.RowKit

set_option maxHeartbeats 400000 in
theorem goal_any (b : Bool) (nm role : ByteArray) (o : Int) (v1 v2 v3 : Value) (w : World) :
    Calls Try.prog 22 #[.agg #[.bool b, .string nm, .string role, .int .i64 o, v1, v2, v3]] w fun e w' => e = .returned (.bool (isGoal role)) ∧ Below w.heap.size w w' := by
  go_enter Try.func22, Try.ntmps22
  go_wp2_with fail
  all_goals
    go_ret
    refine ⟨?_, below_box w _⟩
    unfold isGoal
    first | rfl | simp [*]
set_option maxHeartbeats 400000 in
theorem refGoal_any (b : Bool) (nm role : ByteArray) (o : Int) (v1 v2 v3 : Value) (w : World) :
    Calls Try.prog 23 #[.agg #[.bool b, .string nm, .string role, .int .i64 o, v1, v2, v3]] w fun e w' => e = .returned (.bool (isGoal role)) ∧ Below w.heap.size w w' := by
  go_enter Try.func23, Try.ntmps23
  go_wp2_with fail
  all_goals
    go_ret
    refine ⟨?_, below_box w _⟩
    unfold isGoal
    first | rfl | simp [*]

theorem intT : SliceTy Try.prog 26 3 1 8 := sliceTy Try.underlying26 (z := .int .i64 0) (by kernel_rfl) rfl (by omega)

/-- A number's cell. -/
def nvs (n : Nat) : List Value := [.int .i64 n]
def encN (n : Nat) : List Tr := [.leaf (.int .i64 n)]

set_option maxHeartbeats 400000 in
theorem row_any (a b : List Nat) (va vb : Value) (B : Nat) (w : World) (ha : Rd w B (.sl 1 (a.map encN)) va) (hb : Rd w B (.sl 1 (b.map encN)) vb) :
    Calls Try.prog 12 #[va, vb] w fun e w' => e = .returned (.bool (decide (a = b))) ∧ ∃ n, w' = w.drewN n := by
  obtain ⟨Aa, ca, rfl, hca, hna, hma⟩ := ha.sl_form
  obtain ⟨Ab, cb, rfl, hcb, hnb, hmb⟩ := hb.sl_form
  rw [List.length_map] at hca hcb hna hnb ha hb ⊢
  unfold maxLen at hma hmb
  have Ha := Lib.hid ha
  have Hb := Lib.hid hb
  clear ha hb
  by_cases hl : a.length = b.length
  · have hl2 : (!((a.length : Int) == (b.length : Int))) = false := by simp [hl]
    have hl3 : (((a.length : Int) == (b.length : Int))) = true := by simp [hl]
    have Hl := Lib.hid hl
    clear hl
    go_enter Try.func12, Try.ntmps12
    go_wp2_with fail
    go_loopw [5] (fun i wr => ∃ k : Nat, k ≤ a.length ∧ i = .int .i64 k ∧ a.take k = b.take k ∧ ∃ n, wr = w.drewN n) (fun i _ => a.length - (intOf i).toNat)
    case atStart => exact ⟨0, Nat.zero_le _, rfl, rfl, 0, rfl⟩
    case round =>
      obtain ⟨k, hk, rfl, htk, nw, rfl⟩ := hrel
      have Htk := Lib.hid htk
      clear htk
      by_cases hlt : k < a.length
      · have hltb : k < b.length := by have := Hl.out; omega
        obtain ⟨ab, oa, rfl, hba, ca0⟩ := Ha.out.leaf_at (f := fun n : Nat => Value.int .i64 n) hlt
        obtain ⟨bb, ob, rfl, hbb, cb0⟩ := Hb.out.leaf_at (f := fun n : Nat => Value.int .i64 n) hltb
        by_cases hab : a[k] = b[k]
        · have h1 : (!((a[k] : Int) == (b[k] : Int))) = false := by simp [hab]
          have h2 : (((a[k] : Int) == (b[k] : Int))) = true := by simp [hab]
          have h3 : (((a[k] : Int) != (b[k] : Int))) = false := by simp [hab]
          have Hab := Lib.hid hab
          clear hab
          go_wp2_with fail
          go_quiet (fail)
          go_wp2_with fail
          go_roundw
          case rel => exact ⟨k + 1, by omega, by go_num, by rw [List.take_succ_eq_append_getElem hlt, List.take_succ_eq_append_getElem hltb, Htk.out, Hab.out], _, rfl⟩
          case measure => simp [intOf]; omega
        · have hne : a ≠ b := fun e => hab (by subst e; rfl)
          have hd : decide (a = b) = false := by simp [hne]
          have h1 : (!((a[k] : Int) == (b[k] : Int))) = true := by simp; omega
          have h3 : (((a[k] : Int) != (b[k] : Int))) = true := by simp; omega
          have Hd := Lib.hid hd
          clear hab hne hd
          go_wp2_with fail
          go_quiet (fail)
          go_wp2_with fail
          go_ret
          exact ⟨by rw [Hd.out]; rfl, _, World.drewN_drewN _ _ _⟩
      · have hd : decide (a = b) = true := by
          have e1 : a.take k = a := List.take_of_length_le (by omega)
          have e2 : b.take k = b := List.take_of_length_le (by have := Hl.out; omega)
          have := Htk.out
          rw [e1, e2] at this
          simp [this]
        have Hd := Lib.hid hd
        clear hd
        go_wp2_with fail
        go_ret
        exact ⟨by rw [Hd.out]; rfl, _, rfl⟩
  · have hne : a ≠ b := fun e => hl (by rw [e])
    have hd : decide (a = b) = false := by simp [hne]
    rw [hd]
    have hl2 : (!((a.length : Int) == (b.length : Int))) = true := by simp; omega
    clear hd hne
    go_enter Try.func12, Try.ntmps12
    go_wp2_with fail
    go_ret
    exact ⟨rfl, 0, rfl⟩

/-- A set of symbols, with those of a list. -/
def addSyF (f : Sy → Option Value) (l : List Sy) (y : Sy) : Option Value := if hasSy l y then some (.bool true) else f y
theorem addSyF_snoc (f : Sy → Option Value) (l : List Sy) (x y : Sy) : addSyF f (l ++ [x]) y = if y = x then some (.bool true) else addSyF f l y := by
  unfold addSyF
  rw [hasSy_snoc]
  by_cases h : y = x
  · subst h; simp
  · have : ¬ x = y := fun e => h e.symm
    simp [h, this]
/-- A set of numbers, with those of a list. -/
def addNF (f : Nat → Option Value) (l : List Nat) (y : Nat) : Option Value := if y ∈ l then some (.bool true) else f y
theorem addNF_snoc (f : Nat → Option Value) (l : List Nat) (x y : Nat) : addNF f (l ++ [x]) y = if y = x then some (.bool true) else addNF f l y := by
  unfold addNF
  by_cases h : y = x
  · subst h; simp
  · simp [h]

set_option maxHeartbeats 400000 in
theorem addSy_any (f : Sy → Option Value) (l : List Sy) (g : Nat) (v : Value) (B : Nat) (w : World) (hr : Rd w B (.sl 3 (l.map encSy)) v) (hm : MapF w g symV f) (hB : B ≤ w.heap.size) :
    Calls Try.prog 25 #[.map (some g), v] w fun e w' => e = .returned (.tuple #[]) ∧ MapF w' g symV (addSyF f l) ∧ Upd w w' (fun k => k = g) := by
  obtain ⟨A, c, rfl, hc, hn, hmm⟩ := hr.sl_form
  rw [List.length_map] at hc hn hr ⊢
  have hlg := hm.lt
  have Hr := Lib.hid hr
  have Hm := Lib.hid hm
  clear hr hm
  unfold maxLen at hmm
  go_enter Try.func25, Try.ntmps25
  go_wp2_with fail
  go_loopw [8] (fun i wr => ∃ k : Nat, k ≤ l.length ∧ i = .int .i64 k ∧ MapF wr g symV (addSyF f (l.take k)) ∧ Upd w wr (fun k => k = g)) (fun i _ => l.length - (intOf i).toNat)
  case atStart => exact ⟨0, Nat.zero_le _, rfl, Hm.out.congr (fun x => by simp [addSyF, hasSy]), Upd.refl _ _⟩
  case round =>
    obtain ⟨k, hk, rfl, hm, hup⟩ := hrel
    have hz := hup.size
    have Hm1 := Lib.hid hm
    have Hup := Lib.hid hup
    clear hm hup
    by_cases hlt : k < l.length
    · obtain ⟨ab, off, rfl, hb, c0, c1, c2⟩ := (Hr.out.keep fun p hp => map_cells Hm.out Hm1.out Hup.out p (by omega)).sy_at hlt
      go_wp2_with (at_mapUpdate
                   refine wpList_mapStore rfl (.tmp 12) (.tmp 13) (.const (.bool true)) rfl symK Try.underlying59 rfl l[k] rfl (.bool true) rfl (by exact Hm1.out.alloc _) ?_
                   intro w1 hm1 hu1)
      go_roundw
      case rel =>
        refine ⟨k + 1, by omega, by go_num, hm1.congr (fun y => ?_), Hup.out.trans (((Upd.refl wr _).alloc _).trans hu1 (fun i hi => .inl hi)) (fun i hi => .inl hi)⟩
        rw [List.take_succ_eq_append_getElem hlt, addSyF_snoc]
      case measure => simp [intOf]; omega
    · have hk2 : k = l.length := by omega
      go_wp2_with fail
      go_end0
      refine ⟨rfl, ?_, Hup.out⟩
      have := Hm1.out
      rwa [hk2, List.take_length] at this

set_option maxHeartbeats 400000 in
theorem addN_any (f : Nat → Option Value) (l : List Nat) (g : Nat) (v : Value) (B : Nat) (w : World) (hr : Rd w B (.sl 1 (l.map encN)) v) (hm : MapF w g (fun n : Nat => Value.int .i64 n) f) (hB : B ≤ w.heap.size) :
    Calls Try.prog 35 #[.map (some g), v] w fun e w' => e = .returned (.tuple #[]) ∧ MapF w' g (fun n : Nat => Value.int .i64 n) (addNF f l) ∧ Upd w w' (fun k => k = g) := by
  obtain ⟨A, c, rfl, hc, hn, hmm⟩ := hr.sl_form
  rw [List.length_map] at hc hn hr ⊢
  have hlg := hm.lt
  have Hr := Lib.hid hr
  have Hm := Lib.hid hm
  clear hr hm
  unfold maxLen at hmm
  go_enter Try.func35, Try.ntmps35
  go_wp2_with fail
  go_loopw [8] (fun i wr => ∃ k : Nat, k ≤ l.length ∧ i = .int .i64 k ∧ MapF wr g (fun n : Nat => Value.int .i64 n) (addNF f (l.take k)) ∧ Upd w wr (fun k => k = g)) (fun i _ => l.length - (intOf i).toNat)
  case atStart => exact ⟨0, Nat.zero_le _, rfl, Hm.out.congr (fun x => by simp [addNF]), Upd.refl _ _⟩
  case round =>
    obtain ⟨k, hk, rfl, hm, hup⟩ := hrel
    have hz := hup.size
    have Hm1 := Lib.hid hm
    have Hup := Lib.hid hup
    clear hm hup
    by_cases hlt : k < l.length
    · obtain ⟨ab, off, rfl, hb, c0⟩ := (Hr.out.keep fun p hp => map_cells Hm.out Hm1.out Hup.out p (by omega)).leaf_at (f := fun n : Nat => Value.int .i64 n) hlt
      go_wp2_with (at_mapUpdate
                   refine wpList_mapStore rfl (.tmp 12) (.tmp 13) (.const (.bool true)) rfl intK Try.underlying61 rfl l[k] rfl (.bool true) rfl (by exact Hm1.out) ?_
                   intro w1 hm1 hu1)
      go_roundw
      case rel =>
        refine ⟨k + 1, by omega, by go_num, hm1.congr (fun y => ?_), Hup.out.trans hu1 (fun i hi => .inl hi)⟩
        rw [List.take_succ_eq_append_getElem hlt, addNF_snoc]
      case measure => simp [intOf]; omega
    · have hk2 : k = l.length := by omega
      go_wp2_with fail
      go_end0
      refine ⟨rfl, ?_, Hup.out⟩
      have := Hm1.out
      rwa [hk2, List.take_length] at this

end Go.Proofs.Ytikgjappablbhaa
