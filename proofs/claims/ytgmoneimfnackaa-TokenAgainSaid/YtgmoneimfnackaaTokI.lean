/-
  Walks over the document's answer: Sign, one.
-/
import Derived.Test.YtgmoneimfnackaaTokH
namespace Go.Proofs.Ytgmoneimfnackaa
open Go.RowKit

/-! ## Signs, as the document has them -/
def signs20 : List (List UInt8) := signsL ++ singles.map fun b => [b]
def sgnR (l : List UInt8) : Nat := match signs20.find? (fun x => Lib.hasPrefix l x) with | some x => x.length | none => 0
theorem find_single (a : UInt8) (t : List UInt8) : ∀ L : List UInt8, (L.map fun b => [b]).find? (fun x => Lib.hasPrefix (a :: t) x) = if 0 ≤ Lib.indexByte L a then some [a] else none
  | [] => by rfl
  | b :: L => by
    have ih := find_single a t L
    have hge := Lib.indexByte_ge L a
    have hp : Lib.hasPrefix (a :: t) [b] = (b == a) := by simp [Lib.hasPrefix, List.isPrefixOf]
    rw [List.map_cons]
    unfold Lib.indexByte
    by_cases h : b = a
    · subst h
      rw [List.find?_cons_of_pos (by simp [hp])]
      simp
    · rw [List.find?_cons_of_neg (by simp [hp, h]), ih]
      have hb : (b == a) = false := by simpa using h
      rw [hb]
      simp only [Bool.false_eq_true, if_false]
      by_cases h1 : Lib.indexByte L a = -1
      · rw [h1]; rfl
      · have h2 : (Lib.indexByte L a == -1) = false := by simpa using h1
        rw [h2]
        simp only [Bool.false_eq_true, if_false]
        rw [if_pos (by omega), if_pos (by omega)]
theorem sgnR_eq (l : List UInt8) : sgnR l = sgn l := by
  unfold sgnR sgn signs20
  rw [List.find?_append]
  cases h : signsL.find? (fun x => Lib.hasPrefix l x) with
  | some x => rfl
  | none =>
    rw [Option.none_or]
    cases l with
    | nil => rfl
    | cons a t =>
      rw [find_single]
      simp only [List.headD_cons]
      by_cases h2 : 0 ≤ Lib.indexByte singles a
      · simp only [h2, if_true]; rfl
      · simp only [h2, if_false]

theorem hp_hit {r X : ByteArray} (h1 : X.size ≤ r.size) {b : Bool} (h2 : ((r.extract 0 X.size).toList == X.toList) = b) : Lib.hasPrefix (bts r) (bts X) = b := by
  have := Lib.hasPrefix_raw r X
  rw [h2] at this
  unfold bts
  rw [← this]
  simp [h1]
theorem hp_miss {r X : ByteArray} (h1 : ¬ X.size ≤ r.size) : Lib.hasPrefix (bts r) (bts X) = false := by
  have := Lib.hasPrefix_raw r X
  unfold bts
  rw [← this]
  simp [h1]

set_option maxHeartbeats 4000000 in
theorem refSign_any (r : ByteArray) (w : World) (hs : r.size ≤ 1000000) :
    Calls Try.prog 33 #[.string r] w (fun e w' => e = .returned (.int .i64 (sgn (bts r) : Nat)) ∧ Below w.heap.size w w') := by
  rw [← sgnR_eq]
  generalize hV : sgnR (bts r) = V
  have HV := Lib.hid hV
  clear hV
  go_enter Try.func33, Try.ntmps33
  go_wp2_with fail
  go_loopw [4] (fun i wr => ∃ k : Nat, k ≤ 20 ∧ i = .int .i64 k ∧ (∀ x ∈ signs20.take k, Lib.hasPrefix (bts r) x = false) ∧ Below w.heap.size w wr ∧ wr.heap[w.heap.size]? = some (.cells (signs20.map fun x => Value.string ⟨x.toArray⟩).toArray 9 (0, 0))) (fun i _ => 20 - (intOf i).toNat)
  case atStart => exact ⟨0, Nat.zero_le _, rfl, by simp, below_box w _, heap_alloc_new w _⟩
  case round =>
    obtain ⟨k, hk, rfl, hno, hbel, hbx⟩ := hrel
    have Hno := Lib.hid hno
    have Hbel := Lib.hid hbel
    have Hbx := Lib.hid hbx
    have hlb := ltOf hbx
    clear hno hbel
    by_cases hlt : k < 20
    · have hk20 : k < signs20.length := hlt
      obtain ⟨xk, hxk⟩ : ∃ xk, signs20[k] = xk := ⟨_, rfl⟩
      have hx? : signs20[k]? = some xk := by rw [List.getElem?_eq_getElem hk20, hxk]
      obtain ⟨X, hX⟩ : ∃ X : ByteArray, X = ⟨xk.toArray⟩ := ⟨_, rfl⟩
      have hc : wr.cell? ⟨w.heap.size, k, none⟩ = some (.string X) := by
        rw [cell_of_row wr w.heap.size k _ _ _ hbx, hX]
        simp [hx?]
      have hXb : bts X = xk := by rw [hX]; rfl
      have hXs : X.size ≤ 3 := by
        rw [← bts_len, hXb, ← hxk]
        have : ∀ x ∈ signs20, x.length ≤ 3 := by decide
        exact this _ (List.getElem_mem hk20)
      have HXb := Lib.hid hXb
      have Hx := Lib.hid hx?
      clear hX hk20 hbx hxk hXb hx?
      by_cases h1 : X.size ≤ r.size
      · cases h2 : ((r.extract 0 X.size).toList == X.toList) with
        | true =>
          have Hh := Lib.hid (hp_hit h1 h2)
          go_wp2_with fail
          go_quiet (fail)
          go_wp2_with fail
          go_ret
          refine ⟨?_, drewN_low Hbel.out _⟩
          have : V = X.size := by
            rw [← HV.out]
            have hk20 : k < signs20.length := hlt
            have hxe : signs20[k] = xk := by
              have := Hx.out
              rw [List.getElem?_eq_getElem hk20] at this
              injection this
            unfold sgnR
            rw [find_at hk20 Hno.out (by rw [hxe, ← HXb.out]; exact Hh.out)]
            show signs20[k].length = _
            rw [hxe, ← HXb.out]
            rfl
          rw [this]
          rfl
        | false =>
          have Hh := Lib.hid (hp_hit h1 h2)
          go_wp2_with fail
          go_quiet (fail)
          go_wp2_with fail
          go_roundw
          case rel =>
            refine ⟨k + 1, by omega, by go_num, fun x hx => ?_, drewN_low Hbel.out _, Hbx.out⟩
            rw [List.take_add_one, Hx.out] at hx
            rcases List.mem_append.1 hx with h | h
            · exact Hno.out x h
            · have : x = xk := by simpa using h
              rw [this, ← HXb.out]
              exact Hh.out
          case measure => simp [intOf]; omega
      · have Hh := Lib.hid (hp_miss h1)
        go_wp2_with fail
        go_quiet (fail)
        go_wp2_with fail
        go_roundw
        case rel =>
          refine ⟨k + 1, by omega, by go_num, fun x hx => ?_, drewN_low Hbel.out _, Hbx.out⟩
          rw [List.take_add_one, Hx.out] at hx
          rcases List.mem_append.1 hx with h | h
          · exact Hno.out x h
          · have : x = xk := by simpa using h
            rw [this, ← HXb.out]
            exact Hh.out
        case measure => simp [intOf]; omega
    · have hk20 : k = 20 := by omega
      have Hk := Lib.hid hk20
      clear hk20
      go_wp2_with fail
      go_ret
      refine ⟨?_, Hbel.out⟩
      have : V = 0 := by
        rw [← HV.out]
        unfold sgnR
        rw [List.find?_eq_none.2 (fun x hx => by
          have := Hno.out x (by rw [Hk.out]; exact hx)
          rw [this]
          decide)]
      rw [this]
      rfl

end Go.Proofs.Ytgmoneimfnackaa
