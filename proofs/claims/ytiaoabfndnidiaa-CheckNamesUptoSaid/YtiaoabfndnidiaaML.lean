/-
  Part 12 of the proof over the checker: walks and plain laws.
-/
import Derived.Test.YtiaoabfndnidiaaMK
set_option maxRecDepth 100000
set_option maxHeartbeats 8000000
set_option linter.unusedSimpArgs false
set_option linter.unusedVariables false
namespace Go.Proofs.Ytiaoabfndnidiaa
open Go.RowKit
def posC : Cl := [⟨false, .mk 1 [.mk 2 []], .mk 0 []⟩]
def negC : Cl := [⟨true, .mk 1 [.mk (-1) []], .mk 0 []⟩]
def wkIn : List Cl := [posC, negC]
def wk1 : Sp := ⟨1, [], [0], [], [], posC⟩
def wk2 : Sp := ⟨1, [], [1], [], [], negC⟩
def wk3 (c : Cl) : Sp := ⟨8, [1, 0], [0], [], [], c⟩
theorem wk_cut (c : Cl) : makesM wkIn [wk1, wk2, wk3 c] (wk3 c) = some [] := by
 have h1 : makesM wkIn [wk1, wk2, wk3 c] (wk3 c) = makesL (wk3 c) [negC, posC] := rfl
 have h2 : makesL (wk3 c) [negC, posC] = makesCut (wk3 c) [negC, posC] := by
  have r8 : (wk3 c).rule = 8 := rfl
  unfold makesL
  rw [if_neg (show ¬ (([negC, posC] : List Cl).any fun c => !fairB c) = true by decide +kernel), r8, if_neg (by decide), if_neg (by decide), if_pos rfl]
 rw [h1, h2]
 show cutM (wk3 c) negC posC = some []
 have h3 : cutS negC posC 0 = true := by decide +kernel
 have n1 : numbersB (wk3 c) 2 1 0 false = true := rfl
 have l0 : (wk3 c).lits.headD 0 = 0 := rfl
 unfold cutM
 rw [l0, if_neg (by rw [n1]; decide), if_neg (by decide)]
 show (if cutS negC posC 0 = true then _ else _) = _
 rw [if_pos h3]
 rfl
theorem wk_in {s : Sp} (l : List Sp) {i : Int} {c : Cl} (hs : s.rule = 1) (hn : numbersB s 0 1 0 false = true) (hi : litI s 0 = i) (h0 : 0 ≤ i) (h1 : i < (wkIn.length : Int)) (hl : wkIn[li s 0]? = some c) : makesM wkIn l s = some c := by
 unfold makesM
 rw [if_pos hs, if_neg, hl]
 rintro (h | h | h)
 · rw [hn] at h; cases h
 · omega
 omega
theorem wk_step {l : List Sp} {n : Nat} {s : Sp} (hl : l[n]? = some s) (hf : fairB s.clause = true) (hp : (s.parents.any fun k => decide (k < 0) || decide ((n : Int) ≤ k)) = false) {c : Cl} (hm : makesM wkIn l s = some c) : stepM wkIn l n = variantsB c s.clause := by
 have hn : n < l.length := (List.getElem?_eq_some_iff.1 hl).1
 unfold stepM
 rw [Int.toNat_natCast, hl]
 simp only [hf, hp, hm]
 rw [decide_eq_true (show (0 : Int) ≤ (n : Int) by omega), decide_eq_true (show (n : Int) < (l.length : Int) by omega)]
 simp
theorem wk_pf1 {a e : Int} (h : PfRes wkIn [wk1, wk2, wk3 []] a e) : a = 0 ∧ e = 0 := by
 have h0 : stepM wkIn [wk1, wk2, wk3 []] (0 : Nat) = true := (wk_step rfl (by decide +kernel) rfl (wk_in _ rfl rfl rfl (by decide) (by decide) rfl)).trans (by decide +kernel)
 have h1 : stepM wkIn [wk1, wk2, wk3 []] (1 : Nat) = true := (wk_step rfl (by decide +kernel) rfl (wk_in _ rfl rfl rfl (by decide) (by decide) rfl)).trans (by decide +kernel)
 have h2 : stepM wkIn [wk1, wk2, wk3 []] (2 : Nat) = true := (wk_step rfl (by decide +kernel) rfl (wk_cut [])).trans (by decide +kernel)
 rcases h with ⟨k, hk, -, hb, -⟩ | ⟨-, ha, he⟩
 · have hk : k < 3 := hk
   rcases (by omega : k = 0 ∨ k = 1 ∨ k = 2) with rfl | rfl | rfl
   · rw [h0] at hb; cases hb
   · rw [h1] at hb; cases hb
   rw [h2] at hb; cases hb
 exact ⟨ha, he.trans rfl⟩
theorem wk_pf2 {a e : Int} (h : PfRes wkIn [wk1] a e) : e = 401 := by
 have h0 : stepM wkIn [wk1] (0 : Nat) = true := (wk_step rfl (by decide +kernel) rfl (wk_in _ rfl rfl rfl (by decide) (by decide) rfl)).trans (by decide +kernel)
 rcases h with ⟨k, hk, -, hb, -⟩ | ⟨-, ha, he⟩
 · have hk : k < 1 := hk
   obtain rfl : k = 0 := by omega
   rw [h0] at hb; cases hb
 exact he.trans rfl
theorem wk_pf3 {a e : Int} (h : PfRes wkIn [wk1, wk2, wk3 posC] a e) : a = 2 ∧ e = 400 := by
 have h0 : stepM wkIn [wk1, wk2, wk3 posC] (0 : Nat) = true := (wk_step rfl (by decide +kernel) rfl (wk_in _ rfl rfl rfl (by decide) (by decide) rfl)).trans (by decide +kernel)
 have h1 : stepM wkIn [wk1, wk2, wk3 posC] (1 : Nat) = true := (wk_step rfl (by decide +kernel) rfl (wk_in _ rfl rfl rfl (by decide) (by decide) rfl)).trans (by decide +kernel)
 have h2 : stepM wkIn [wk1, wk2, wk3 posC] (2 : Nat) = false := (wk_step rfl (by decide +kernel) rfl (wk_cut posC)).trans (by decide +kernel)
 rcases h with ⟨k, hk, -, hb, ha, he⟩ | ⟨hall, -, -⟩
 · have hk : k < 3 := hk
   rcases (by omega : k = 0 ∨ k = 1 ∨ k = 2) with rfl | rfl | rfl
   · rw [h0] at hb; cases hb
   · rw [h1] at hb; cases hb
   exact ⟨ha, he⟩
 have := hall 2 (by decide)
 rw [h2] at this; cases this
theorem allocs_get : ∀ (os : List Obj) (w : World), Below w.heap.size w (os.foldl World.alloc w) ∧ (os.foldl World.alloc w).heap.size = w.heap.size + os.length ∧ ∀ k, k < os.length → (os.foldl World.alloc w).heap[w.heap.size + k]? = os[k]?
 | [], w => ⟨Below.refl _ _, rfl, fun k h => by simp at h⟩
 | o :: os, w => by
   obtain ⟨h1, h2, h3⟩ := allocs_get os (w.alloc o)
   rw [alloc_size] at h2 h3
   refine ⟨(below_box w o).trans (h1.mono (by simp)), by rw [List.foldl_cons, h2, List.length_cons]; omega, fun k hk => ?_⟩
   rw [List.foldl_cons]
   cases k with
   | zero =>
     rw [h1.block _ (by simp), Nat.add_zero, alloc_get, if_pos rfl]
     rfl
   | succ k =>
     have := h3 k (by simpa using hk)
     rw [show w.heap.size + (k + 1) = w.heap.size + 1 + k by omega, this]
     rfl
theorem block_set {w : World} {g i : Nat} {cs : Array Value} {t : TypeId} {fr : Nat × Nat} (h : w.heap[g]? = some (.cells cs t fr)) (v : Value) : (w.setCell ⟨g, i, none⟩ v).heap[g]? = some (.cells (cs.setIfInBounds i v) t fr) := by
 simp [World.setCell, Array.getElem?_modify, h]
theorem Rd.takeN {w : World} {B size n c : Nat} {A : Option Addr} {rows : List (List Tr)} (h : Rd w B (.sl size rows) (.slice A n c)) {k : Nat} (hk : k ≤ rows.length) (h0 : 0 < k) : Rd w B (.sl size (rows.take k)) (.slice A k c) := by
 cases h with
 | none_ => simp at hk; omega
 | empty _ a => simp at hk; omega
 | row _ b off c _ us hl hc hn hm hb hcell hr =>
   have hlen : (rows.take k).length = k := by rw [List.length_take]; omega
   have := Rd.row size b off c (rows.take k) us (fun r hr => hl r (List.mem_of_mem_take hr)) (by omega) (by omega) hm hb (fun i j hi hj => hcell i j (by omega) hj) (fun i hi j hj => by
    simp only [List.getElem_take] at hj ⊢
    exact hr i (by omega) j hj)
   rw [hlen] at this
   exact this
structure WkH (h : Nat) (cl : Value) (W : World) : Prop where
 size : h + 10 < W.heap.size
 b1 : W.heap[h + 1]? = some (.cells #[.int .i64 2, .slice none 0 0] 51 (0, 0))
 b2 : W.heap[h + 2]? = some (.cells #[.bool false, .int .i64 1, .slice (some ⟨h + 1, 0, none⟩) 1 1, .int .i64 0, .slice none 0 0] 53 (0, 0))
 b3 : W.heap[h + 3]? = some (.cells #[.int .i64 (-1), .slice none 0 0] 51 (0, 0))
 b4 : W.heap[h + 4]? = some (.cells #[.bool true, .int .i64 1, .slice (some ⟨h + 3, 0, none⟩) 1 1, .int .i64 0, .slice none 0 0] 53 (0, 0))
 b5 : W.heap[h + 5]? = some (.cells #[.int .i64 0] 3 (0, 0))
 b6 : W.heap[h + 6]? = some (.cells #[.int .i64 1] 3 (0, 0))
 b7 : W.heap[h + 7]? = some (.cells #[.int .i64 1, .int .i64 0] 3 (0, 0))
 b8 : W.heap[h + 8]? = some (.cells #[.int .i64 0] 3 (0, 0))
 b9 : W.heap[h + 9]? = some (.cells #[.int .i64 1, .slice none 0 0, .slice (some ⟨h + 5, 0, none⟩) 1 1, .slice none 0 0, .slice none 0 0, .slice (some ⟨h + 2, 0, none⟩) 1 1, .int .i64 1, .slice none 0 0, .slice (some ⟨h + 6, 0, none⟩) 1 1, .slice none 0 0, .slice none 0 0, .slice (some ⟨h + 4, 0, none⟩) 1 1, .int .i64 8, .slice (some ⟨h + 7, 0, none⟩) 2 2, .slice (some ⟨h + 8, 0, none⟩) 1 1, .slice none 0 0, .slice none 0 0, cl] 45 (0, 0))
 b10 : W.heap[h + 10]? = some (.cells #[.slice (some ⟨h + 2, 0, none⟩) 1 1, .slice (some ⟨h + 4, 0, none⟩) 1 1] 38 (0, 0))
namespace WkH
variable {h : Nat} {cl : Value} {W W' : World}
theorem low (k : WkH h cl W) (hb : Below W.heap.size W W') : WkH h cl W' where
 size := Nat.lt_of_lt_of_le k.size hb.size
 b1 := (hb.block _ (by have := k.size; omega)).trans k.b1
 b2 := (hb.block _ (by have := k.size; omega)).trans k.b2
 b3 := (hb.block _ (by have := k.size; omega)).trans k.b3
 b4 := (hb.block _ (by have := k.size; omega)).trans k.b4
 b5 := (hb.block _ (by have := k.size; omega)).trans k.b5
 b6 := (hb.block _ (by have := k.size; omega)).trans k.b6
 b7 := (hb.block _ (by have := k.size; omega)).trans k.b7
 b8 := (hb.block _ (by have := k.size; omega)).trans k.b8
 b9 := (hb.block _ (by have := k.size; omega)).trans k.b9
 b10 := (hb.block _ (by have := k.size; omega)).trans k.b10
theorem set (k : WkH h cl W) (u : Value) : WkH h u (W.setCell ⟨h + 9, 17, none⟩ u) where
 size := by have := k.size; simpa [World.setCell] using this
 b1 := (Below.heap_setCell _ _ _ _ (by show h + 1 ≠ h + 9; omega)).trans k.b1
 b2 := (Below.heap_setCell _ _ _ _ (by show h + 2 ≠ h + 9; omega)).trans k.b2
 b3 := (Below.heap_setCell _ _ _ _ (by show h + 3 ≠ h + 9; omega)).trans k.b3
 b4 := (Below.heap_setCell _ _ _ _ (by show h + 4 ≠ h + 9; omega)).trans k.b4
 b5 := (Below.heap_setCell _ _ _ _ (by show h + 5 ≠ h + 9; omega)).trans k.b5
 b6 := (Below.heap_setCell _ _ _ _ (by show h + 6 ≠ h + 9; omega)).trans k.b6
 b7 := (Below.heap_setCell _ _ _ _ (by show h + 7 ≠ h + 9; omega)).trans k.b7
 b8 := (Below.heap_setCell _ _ _ _ (by show h + 8 ≠ h + 9; omega)).trans k.b8
 b9 := (block_set k.b9 u).trans rfl
 b10 := (Below.heap_setCell _ _ _ _ (by show h + 10 ≠ h + 9; omega)).trans k.b10
theorem args (k : WkH h cl W) : Rd W W.heap.size (.sl 2 [encTm (.mk 2 [])]) (.slice (some ⟨h + 1, 0, none⟩) 1 1) :=
 rd_flat (size := 2) (n := 1) (L := [[.int .i64 2, .slice none 0 0]]) k.b1 (by have := k.size; omega) rfl rfl rfl (by simp [encTm]) (by simp) (fun p hp => by
  obtain rfl := List.mem_singleton.1 hp
  intro j hj hj'
  match j, hj' with
  | 0, _ => exact .leaf _
  | 1, _ => exact .none_ _) (by decide)
theorem args2 (k : WkH h cl W) : Rd W W.heap.size (.sl 2 [encTm (.mk (-1) [])]) (.slice (some ⟨h + 3, 0, none⟩) 1 1) :=
 rd_flat (size := 2) (n := 1) (L := [[.int .i64 (-1), .slice none 0 0]]) k.b3 (by have := k.size; omega) rfl rfl rfl (by simp [encTm]) (by simp) (fun p hp => by
  obtain rfl := List.mem_singleton.1 hp
  intro j hj hj'
  match j, hj' with
  | 0, _ => exact .leaf _
  | 1, _ => exact .none_ _) (by decide)
theorem pos (k : WkH h cl W) : Rd W W.heap.size (encCl posC) (.slice (some ⟨h + 2, 0, none⟩) 1 1) :=
 rd_flat (size := 5) (n := 1) (L := [[.bool false, .int .i64 1, .slice (some ⟨h + 1, 0, none⟩) 1 1, .int .i64 0, .slice none 0 0]]) k.b2 (by have := k.size; omega) rfl rfl rfl (by simp [posC, encLt_len]) (by simp) (fun p hp => by
  obtain rfl := List.mem_singleton.1 hp
  intro j hj hj'
  match j, hj' with
  | 0, _ => exact .leaf _
  | 1, _ => exact .leaf _
  | 2, _ => exact k.args
  | 3, _ => exact .leaf _
  | 4, _ => exact .none_ _) (by decide)
theorem neg (k : WkH h cl W) : Rd W W.heap.size (encCl negC) (.slice (some ⟨h + 4, 0, none⟩) 1 1) :=
 rd_flat (size := 5) (n := 1) (L := [[.bool true, .int .i64 1, .slice (some ⟨h + 3, 0, none⟩) 1 1, .int .i64 0, .slice none 0 0]]) k.b4 (by have := k.size; omega) rfl rfl rfl (by simp [negC, encLt_len]) (by simp) (fun p hp => by
  obtain rfl := List.mem_singleton.1 hp
  intro j hj hj'
  match j, hj' with
  | 0, _ => exact .leaf _
  | 1, _ => exact .leaf _
  | 2, _ => exact k.args2
  | 3, _ => exact .leaf _
  | 4, _ => exact .none_ _) (by decide)
theorem input (k : WkH h cl W) : Rd W W.heap.size (encCls wkIn) (.slice (some ⟨h + 10, 0, none⟩) 2 2) :=
 rd_flat (size := 1) (n := 2) (L := [[.slice (some ⟨h + 2, 0, none⟩) 1 1], [.slice (some ⟨h + 4, 0, none⟩) 1 1]]) k.b10 (by have := k.size; omega) rfl rfl rfl (by simp [wkIn]) (by simp) (fun p hp => by
  rcases List.mem_cons.1 hp with rfl | hp
  · intro j hj hj'
    match j, hj' with
    | 0, _ => exact k.pos
  obtain rfl := List.mem_singleton.1 hp
  intro j hj hj'
  match j, hj' with
  | 0, _ => exact k.neg) (by decide)
theorem is5 (k : WkH h cl W) : Rd W W.heap.size (encIs [0]) (.slice (some ⟨h + 5, 0, none⟩) 1 1) :=
 rd_flat (size := 1) (n := 1) (L := [[.int .i64 0]]) k.b5 (by have := k.size; omega) rfl rfl rfl (by simp) (by simp) (fun p hp => by
  simp at hp
  first | (obtain rfl := hp) | (rcases hp with rfl | rfl)
  all_goals
   intro j hj hj'
   match j, hj' with
   | 0, _ => exact .leaf _) (by decide)
theorem is6 (k : WkH h cl W) : Rd W W.heap.size (encIs [1]) (.slice (some ⟨h + 6, 0, none⟩) 1 1) :=
 rd_flat (size := 1) (n := 1) (L := [[.int .i64 1]]) k.b6 (by have := k.size; omega) rfl rfl rfl (by simp) (by simp) (fun p hp => by
  simp at hp
  first | (obtain rfl := hp) | (rcases hp with rfl | rfl)
  all_goals
   intro j hj hj'
   match j, hj' with
   | 0, _ => exact .leaf _) (by decide)
theorem is7 (k : WkH h cl W) : Rd W W.heap.size (encIs [1, 0]) (.slice (some ⟨h + 7, 0, none⟩) 2 2) :=
 rd_flat (size := 1) (n := 2) (L := [[.int .i64 1], [.int .i64 0]]) k.b7 (by have := k.size; omega) rfl rfl rfl (by simp) (by simp) (fun p hp => by
  simp at hp
  first | (obtain rfl := hp) | (rcases hp with rfl | rfl)
  all_goals
   intro j hj hj'
   match j, hj' with
   | 0, _ => exact .leaf _) (by decide)
theorem is8 (k : WkH h cl W) : Rd W W.heap.size (encIs [0]) (.slice (some ⟨h + 8, 0, none⟩) 1 1) :=
 rd_flat (size := 1) (n := 1) (L := [[.int .i64 0]]) k.b8 (by have := k.size; omega) rfl rfl rfl (by simp) (by simp) (fun p hp => by
  simp at hp
  first | (obtain rfl := hp) | (rcases hp with rfl | rfl)
  all_goals
   intro j hj hj'
   match j, hj' with
   | 0, _ => exact .leaf _) (by decide)
theorem steps (k : WkH h cl W) {c : Cl} (hc : Rd W W.heap.size (encCl c) cl) : Rd W W.heap.size (encSps [wk1, wk2, wk3 c]) (.slice (some ⟨h + 9, 0, none⟩) 3 3) :=
 rd_flat (size := 6) (n := 3) (L := [[.int .i64 1, .slice none 0 0, .slice (some ⟨h + 5, 0, none⟩) 1 1, .slice none 0 0, .slice none 0 0, .slice (some ⟨h + 2, 0, none⟩) 1 1], [.int .i64 1, .slice none 0 0, .slice (some ⟨h + 6, 0, none⟩) 1 1, .slice none 0 0, .slice none 0 0, .slice (some ⟨h + 4, 0, none⟩) 1 1], [.int .i64 8, .slice (some ⟨h + 7, 0, none⟩) 2 2, .slice (some ⟨h + 8, 0, none⟩) 1 1, .slice none 0 0, .slice none 0 0, cl]]) k.b9 (by have := k.size; omega) rfl rfl rfl (by simp [encSp]) (by simp) (fun p hp => by
  rcases List.mem_cons.1 hp with rfl | hp
  · intro j hj hj'
    match j, hj' with
    | 0, _ => exact .leaf _
    | 1, _ => exact .none_ _
    | 2, _ => exact k.is5
    | 3, _ => exact .none_ _
    | 4, _ => exact .none_ _
    | 5, _ => exact k.pos
  rcases List.mem_cons.1 hp with rfl | hp
  · intro j hj hj'
    match j, hj' with
    | 0, _ => exact .leaf _
    | 1, _ => exact .none_ _
    | 2, _ => exact k.is6
    | 3, _ => exact .none_ _
    | 4, _ => exact .none_ _
    | 5, _ => exact k.neg
  obtain rfl := List.mem_singleton.1 hp
  intro j hj hj'
  match j, hj' with
  | 0, _ => exact .leaf _
  | 1, _ => exact k.is7
  | 2, _ => exact k.is8
  | 3, _ => exact .none_ _
  | 4, _ => exact .none_ _
  | 5, _ => exact hc) (by decide)
end WkH
def wkO (w : World) (cl : Value) : List Obj := [.cells #[.int .i64 2, .slice none 0 0] 51 (0, 0), .cells #[.int .i64 2, .slice none 0 0] 51 (0, 0), .cells #[.bool false, .int .i64 1, .slice (some ⟨w.heap.size + 1, 0, none⟩) 1 1, .int .i64 0, .slice none 0 0] 53 (0, 0), .cells #[.int .i64 (-1), .slice none 0 0] 51 (0, 0), .cells #[.bool true, .int .i64 1, .slice (some ⟨w.heap.size + 1 + 1 + 1, 0, none⟩) 1 1, .int .i64 0, .slice none 0 0] 53 (0, 0), .cells #[.int .i64 0] 3 (0, 0), .cells #[.int .i64 1] 3 (0, 0), .cells #[.int .i64 1, .int .i64 0] 3 (0, 0), .cells #[.int .i64 0] 3 (0, 0), .cells #[.int .i64 1, .slice none 0 0, .slice (some ⟨w.heap.size + 1 + 1 + 1 + 1 + 1, 0, none⟩) 1 1, .slice none 0 0, .slice none 0 0, .slice (some ⟨w.heap.size + 1 + 1, 0, none⟩) 1 1, .int .i64 1, .slice none 0 0, .slice (some ⟨w.heap.size + 1 + 1 + 1 + 1 + 1 + 1, 0, none⟩) 1 1, .slice none 0 0, .slice none 0 0, .slice (some ⟨w.heap.size + 1 + 1 + 1 + 1, 0, none⟩) 1 1, .int .i64 8, .slice (some ⟨w.heap.size + 1 + 1 + 1 + 1 + 1 + 1 + 1, 0, none⟩) 2 2, .slice (some ⟨w.heap.size + 1 + 1 + 1 + 1 + 1 + 1 + 1 + 1, 0, none⟩) 1 1, .slice none 0 0, .slice none 0 0, cl] 45 (0, 0), .cells #[.slice (some ⟨w.heap.size + 1 + 1, 0, none⟩) 1 1, .slice (some ⟨w.heap.size + 1 + 1 + 1 + 1, 0, none⟩) 1 1] 38 (0, 0)]
def wkW (w : World) : World := (wkO w (.slice none 0 0)).foldl World.alloc w
theorem wkW_h (w : World) : WkH w.heap.size (.slice none 0 0) (wkW w) ∧ Below w.heap.size w (wkW w) := by
 obtain ⟨h1, h2, h3⟩ := allocs_get (wkO w (.slice none 0 0)) w
 have h2 : (wkW w).heap.size = w.heap.size + 11 := h2
 refine ⟨⟨by omega, h3 1 (show 1 < 11 by omega), h3 2 (show 2 < 11 by omega), h3 3 (show 3 < 11 by omega), h3 4 (show 4 < 11 by omega), h3 5 (show 5 < 11 by omega), h3 6 (show 6 < 11 by omega), h3 7 (show 7 < 11 by omega), h3 8 (show 8 < 11 by omega), h3 9 (show 9 < 11 by omega), h3 10 (show 10 < 11 by omega)⟩, h1⟩
theorem wk_ok (c : Cl) (hc : c = [] ∨ c = posC) : StepOk [wk1, wk2, wk3 c] := by
 have hm : ∀ q ∈ [wk1, wk2, wk3 c], q = wk1 ∨ q = wk2 ∨ q = wk3 c := fun q hq => by simpa using hq
 refine ⟨fun q hq => ?_, fun q hq => ?_, fun q hq => ?_⟩
 · rcases hm q hq with rfl | rfl | rfl
   · show ∀ x ∈ posC, rngL x = true; decide +kernel
   · show ∀ x ∈ negC, rngL x = true; decide +kernel
   show ∀ x ∈ c, rngL x = true
   rcases hc with rfl | rfl <;> decide +kernel
 · rcases hm q hq with rfl | rfl | rfl
   · show sizeC posC ≤ 10000000000; decide +kernel
   · show sizeC negC ≤ 10000000000; decide +kernel
   show sizeC c ≤ 10000000000
   rcases hc with rfl | rfl <;> decide +kernel
 rcases hm q hq with rfl | rfl | rfl
 · decide
 · decide
 show ([1, 0] : List Int).length ≤ 2000000
 decide
theorem wk_ok1 : StepOk [wk1] := by
 have h := wk_ok [] (.inl rfl)
 have hm : ∀ q ∈ [wk1], q ∈ [wk1, wk2, wk3 []] := fun q hq => by rw [List.mem_singleton.1 hq]; exact List.mem_cons_self ..
 exact ⟨fun q hq => h.rng q (hm q hq), fun q hq => h.sz q (hm q hq), fun q hq => h.par q (hm q hq)⟩
theorem wakes_any (w : World) : Calls Try.prog 11 #[] w (BoolRes true w) := by
 obtain ⟨hW, hB⟩ := wkW_h w
 have HW := Lh hW
 have HB := Lh hB
 clear hW hB
 go_enter Try.func11, Try.ntmps11
 go_upto_region 6 with fail
 show Code.wp _ _ _ _ (wkW w)
 generalize wkW w = W at HW HB ⊢
 go_upto_region 7 with (go_at_call 24
                        refine (proof_any wkIn [wk1, wk2, wk3 []] _ _ _ W HW.out.input (HW.out.steps (.none_ _)) (Nat.le_refl _) (wk_ok [] (.inl rfl))).mono ?_
                        rintro e w1 ⟨hb1, a1, e1, rfl, hp1⟩
                        obtain ⟨rfl, rfl⟩ := wk_pf1 hp1
                        have Hb1 := Lh hb1
                        clear hb1 hp1)
 have H1 := Lh (HW.out.low Hb1.out)
 have HB1 := Lh (HB.out.trans (Hb1.out.mono HB.out.size))
 clear HW HB Hb1
 go_upto_region 8 with (go_at_call 24
                        refine (proof_any wkIn [wk1] _ _ _ w1 H1.out.input (Rd.takeN (size := 6) (k := 1) (rows := [wk1, wk2, wk3 []].map encSp) (H1.out.steps (.none_ _)) (by simp) (by decide)) (Nat.le_refl _) wk_ok1).mono ?_
                        rintro e w2 ⟨hb2, a2, e2, rfl, hp2⟩
                        obtain rfl := wk_pf2 hp2
                        have Hb2 := Lh hb2
                        clear hb2 hp2)
 have H2 := Lh (H1.out.low Hb2.out)
 have HB2 := Lh (HB1.out.trans (Hb2.out.mono HB1.out.size))
 clear H1 HB1 Hb2
 have b9 : w2.heap[w.heap.size + 1 + 1 + 1 + 1 + 1 + 1 + 1 + 1 + 1]? = _ := H2.out.b9
 have c2 := fun o => cell_of_row w2 (w.heap.size + 1 + 1 + 1 + 1 + 1 + 1 + 1 + 1 + 1) o _ _ _ b9
 have f2 := fun o => frozen_of_row w2 (w.heap.size + 1 + 1 + 1 + 1 + 1 + 1 + 1 + 1 + 1) o _ _ b9
 clear b9
 go_upto_region 9 with fail
 have H3 : Hid (WkH w.heap.size (.slice (some ⟨w.heap.size + 1 + 1, 0, none⟩) 1 1) (w2.setCell ⟨w.heap.size + 1 + 1 + 1 + 1 + 1 + 1 + 1 + 1 + 1, 17, none⟩ (.slice (some ⟨w.heap.size + 1 + 1, 0, none⟩) 1 1))) := Lh (H2.out.set _)
 have HB3 := Lh (HB2.out.setCell (p := ⟨w.heap.size + 1 + 1 + 1 + 1 + 1 + 1 + 1 + 1 + 1, 17, none⟩) (by show w.heap.size ≤ w.heap.size + 1 + 1 + 1 + 1 + 1 + 1 + 1 + 1 + 1; omega) (.slice (some ⟨w.heap.size + 1 + 1, 0, none⟩) 1 1))
 clear c2 f2
 generalize w2.setCell ⟨w.heap.size + 1 + 1 + 1 + 1 + 1 + 1 + 1 + 1 + 1, 17, none⟩ (.slice (some ⟨w.heap.size + 1 + 1, 0, none⟩) 1 1) = w3 at H3 HB3 ⊢
 go_wp2_with (
  go_at_call 24
  refine (proof_any wkIn [wk1, wk2, wk3 posC] _ _ _ w3 H3.out.input (H3.out.steps H3.out.pos) (Nat.le_refl _) (wk_ok posC (.inr rfl))).mono ?_
  rintro e w4 ⟨hb4, a4, e4, rfl, hp4⟩
  obtain ⟨rfl, rfl⟩ := wk_pf3 hp4
  have Hb4 := Lh hb4
  clear hb4 hp4)
 go_ret
 exact ⟨rfl, HB3.out.trans (Hb4.out.mono HB3.out.size)⟩
end Go.Proofs.Ytiaoabfndnidiaa
