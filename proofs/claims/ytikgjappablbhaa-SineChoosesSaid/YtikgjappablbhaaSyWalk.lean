/-
  Walks over symbols: ref17.at.
-/
import Derived.Test.YtikgjappablbhaaProg
import Derived.Test.YtikgjappablbhaaFm
namespace Go.Proofs.Ytikgjappablbhaa
open Go.RowKit

/-- Are two symbols the same, part by part? -/
def sameB (a b : ByteArray) (m n : Int) (p q : Bool) : Bool := decide (a = b ∧ m = n ∧ p = q)
theorem sameB_iff (x y : Sy) : sameB x.1 y.1 x.2.1 y.2.1 x.2.2 y.2.2 = decide (x = y) := by
  obtain ⟨a, m, p⟩ := x
  obtain ⟨b, n, q⟩ := y
  unfold sameB
  congr 1
  simp only [Prod.mk.injEq, eq_iff_iff]
  constructor <;> rintro ⟨h1, h2, h3⟩ <;> exact ⟨h1, by omega, h3⟩

theorem toList_inj (a b : ByteArray) : (a.toList = b.toList) = (a = b) := by
  rw [ByteArray.toList_eq, ByteArray.toList_eq]
  obtain ⟨⟨x⟩⟩ := a
  obtain ⟨⟨y⟩⟩ := b
  simp

theorem run_eq_sy (a b : ByteArray) (m n : Int) (p q : Bool) (w : World) :
    (binOp .eql 31 (.agg #[.string a, .int .i64 m, .bool p]) (.agg #[.string b, .int .i64 n, .bool q])).run Try.prog w = .ok (.bool (sameB a b m n p q)) w := by
  simp only [go_sem]
  simp [go_sem, toList_inj]
  unfold sameB
  by_cases h1 : a = b <;> by_cases h2 : m = n <;> by_cases h3 : p = q <;> simp [h1, h2, h3]

/-- Where a symbol stands first; -1: nowhere. -/
def idxSy (l : List Sy) (s : Sy) : Int := match l.findIdx? (fun x => decide (x = s)) with | some i => i | none => -1

theorem idxSy_at {l : List Sy} {s : Sy} {k : Nat} (hk : k < l.length) (h : l[k] = s) (hn : ∀ x ∈ l.take k, x ≠ s) : idxSy l s = k := by
  unfold idxSy
  have : l.findIdx? (fun x => decide (x = s)) = some k := by
    rw [List.findIdx?_eq_some_iff_getElem]
    refine ⟨hk, by simp [h], fun j hj => ?_⟩
    have := hn l[j] (by rw [List.mem_take_iff_getElem]; exact ⟨j, by omega, rfl⟩)
    simpa using this
  rw [this]
theorem idxSy_none {l : List Sy} {s : Sy} (hn : ∀ x ∈ l, x ≠ s) : idxSy l s = -1 := by
  unfold idxSy
  have : l.findIdx? (fun x => decide (x = s)) = none := by
    rw [List.findIdx?_eq_none_iff]
    intro x hx
    simpa using hn x hx
  rw [this]

set_option maxHeartbeats 400000 in
theorem at_any (l : List Sy) (s : Sy) (v : Value) (B : Nat) (w : World) (hr : Rd w B (.sl 3 (l.map encSy)) v) (hB : B ≤ w.heap.size) :
    Calls Try.prog 24 #[v, .agg #[.string s.1, .int .i64 s.2.1, .bool s.2.2]] w fun e w' => e = .returned (.int .i64 (idxSy l s)) ∧ Below w.heap.size w w' := by
  obtain ⟨A, c, rfl, hc, hn, hm⟩ := hr.sl_form
  rw [List.length_map] at hc hn hr ⊢
  have Hr := Lib.hid hr
  clear hr
  unfold maxLen at hm
  go_enter Try.func24, Try.ntmps24
  go_wp2_with fail
  go_loopw [5] (fun i wr => ∃ k : Nat, k ≤ l.length ∧ i = .int .i64 k ∧ (∀ x ∈ l.take k, x ≠ s) ∧ Below w.heap.size w wr ∧ wr.heap[w.heap.size]? = some (Obj.cells #[.string s.1, .int .i64 s.2.1, .bool s.2.2] 31)) (fun i _ => l.length - (intOf i).toNat)
  case atStart => exact ⟨0, Nat.zero_le _, rfl, by simp, below_box w _, heap_alloc_new w _⟩
  case round =>
    obtain ⟨k, hk, rfl, hne, hbel, hown⟩ := hrel
    have hsz : w.heap.size < wr.heap.size := (Array.getElem?_eq_some_iff.1 hown).1
    have hown2 := fun o => cell_of_row wr w.heap.size o _ _ _ hown
    have Hown := Lib.hid hown
    have Hne := Lib.hid hne
    clear hown hne
    by_cases hlt : k < l.length
    · obtain ⟨ab, off, rfl, hb, c0, c1, c2⟩ := (Hr.out.low hbel hB).sy_at hlt
      have hq := run_eq_sy l[k].1 s.1 l[k].2.1 s.2.1 l[k].2.2 s.2.2
      by_cases heq : l[k] = s
      · have hs : sameB l[k].1 s.1 l[k].2.1 s.2.1 l[k].2.2 s.2.2 = true := by rw [sameB_iff]; simp [heq]
        have Heq := Lib.hid heq
        clear heq
        go_wp2_with fail
        go_quiet (fail)
        go_wp2_with fail
        go_ret
        exact ⟨by rw [idxSy_at hlt Heq.out Hne.out]; rfl, drewN_low hbel _⟩
      · have hs : sameB l[k].1 s.1 l[k].2.1 s.2.1 l[k].2.2 s.2.2 = false := by rw [sameB_iff]; simp [heq]
        have Heq := Lib.hid heq
        clear heq
        go_wp2_with fail
        go_quiet (fail)
        go_wp2_with fail
        go_roundw
        case rel =>
          refine ⟨k + 1, by omega, by go_num, ?_, ?_, ?_⟩
          · intro x hx
            rw [List.take_succ_eq_append_getElem hlt] at hx
            rcases List.mem_append.1 hx with h | h
            · exact Hne.out x h
            · rw [List.mem_singleton.1 h]; exact Heq.out
          · exact drewN_low hbel _
          · exact Hown.out
        case measure => simp [intOf]; omega
    · go_wp2_with fail
      go_ret
      exact ⟨by rw [idxSy_none (fun x hx => Hne.out x (by rw [List.take_of_length_le (by omega)]; exact hx))]; rfl, hbel⟩

end Go.Proofs.Ytikgjappablbhaa
