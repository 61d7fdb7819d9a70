/-
  Walk over law17.wakes: what the document says of the five entries.
-/
import Derived.Test.YtikgjappablbhaaSmall
import Derived.Test.YtikgjappablbhaaSineH
namespace Go.Proofs.Ytikgjappablbhaa
open Go.RowKit

theorem small_few : Few smallL := ⟨by decide, by decide +kernel⟩
theorem small_commons : commons smallL = [2, 1, 1, 2, 1, 1] := by decide +kernel
theorem small_ten : answer smallL 10 0 = [0, 4] := by decide +kernel
theorem small_twenty : answer smallL 20 0 = [0, 1, 2, 4] := by decide +kernel

/-- Numbers that were just laid. -/
theorem rd_ints (l : List Nat) (w : World) (hn : l.length ≤ 1000000) (t : TypeId) : Rd (w.alloc (.cells (l.map natV).toArray t)) (w.alloc (.cells (l.map natV).toArray t)).heap.size (.sl 1 (l.map encN)) (.slice (some ⟨w.heap.size, 0, none⟩) l.length l.length) := by
  refine rd_flat (size := 1) (n := l.length) (rows := l.map encN) (L := l.map fun n => [natV n]) (heap_alloc_new w _) (by simp) ?_ (by simp) (by simp) ?_ ?_ ?_ hn
  · congr 1
    induction l with
    | nil => rfl
    | cons a l ih => simp [ih (by simp at hn; omega)]
  · intro r hr
    obtain ⟨x, _, rfl⟩ := List.mem_map.1 hr
    rfl
  · intro r hr
    obtain ⟨x, _, rfl⟩ := List.mem_map.1 hr
    rfl
  · intro p hp
    rw [List.zip_map, List.mem_map] at hp
    obtain ⟨⟨x, y⟩, hxy, rfl⟩ := hp
    have : x = y := by
      obtain ⟨i, hi, he⟩ := List.getElem_of_mem hxy
      simp at he
      rw [← he.1, ← he.2]
    subst this
    intro j hj hj'
    have : j = 0 := by simpa [encN] using hj
    subst this
    exact .leaf _

theorem own_rd_n {w : World} {base : Nat} {v : Value} {o : List Nat} (h : Own w base 3 1 v (o.map nvs)) (hn : o.length ≤ 1000000) : Rd w w.heap.size (.sl 1 (o.map encN)) v := by
  have := h.rd (by rw [List.length_map]; omega)
  have e : (o.map nvs).map (fun r => r.map Tr.leaf) = o.map encN := by simp [nvs, encN]
  rw [e] at this
  exact this

set_option maxRecDepth 100000 in
set_option maxHeartbeats 1000000 in
theorem wakes_any (w : World) : Calls Try.prog 9 #[] w (fun e w' => e = .returned (.bool true) ∧ Below w.heap.size w w') := by
  go_enter Try.func9, Try.ntmps9
  go_upto_region 2 with (first
    | (go_at_call 20
       refine (small_any _).mono ?_
       rintro e w1 ⟨v, rfl, hr, hb1⟩)
    | (go_at_call 10
       refine (progCommon_any smallL _ _ _ hr (Nat.le_refl _) small_few).mono ?_
       rintro e w2 ⟨vs, vn, rfl, _, hon, hb2⟩))
  have hz1 := hb1.size
  have HB := Lib.hid (hb1.trans (hb2.mono hz1))
  rw [small_commons] at hon
  have Hn := Lib.hid (hon.base_le hz1)
  clear hon hb1 hb2 hr
  go_upto_region 3 with (first
    | (go_at_call 20
       refine (small_any _).mono ?_
       rintro e w3 ⟨v, rfl, hr, hb3⟩)
    | (go_at_call 13
       refine (progChoose_any smallL _ _ _ _ _ hr (Nat.le_refl _) small_few).mono ?_
       rintro e w4 ⟨va, rfl, hoa, hb4⟩
       simp only [show errno (10 : Int) 0 = 0 from by decide]))
  have hz3 := hb3.size
  have hb24 := hb3.trans (hb4.mono hz3)
  have HB4 := Lib.hid (HB.out.trans (hb24.mono HB.out.size))
  have Hn4 := Lib.hid (Hn.out.low hb24)
  rw [small_ten] at hoa
  have Ha := Lib.hid (hoa.base_le (Nat.le_trans HB.out.size hz3))
  clear hoa hb3 hb4 hr hb24 Hn HB
  go_upto_region 4 with (first
    | (go_at_call 20
       refine (small_any _).mono ?_
       rintro e w5 ⟨v, rfl, hr, hb5⟩)
    | (go_at_call 13
       refine (progChoose_any smallL _ _ _ _ _ hr (Nat.le_refl _) small_few).mono ?_
       rintro e w6 ⟨vb, rfl, hob, hb6⟩
       simp only [show errno (20 : Int) 0 = 0 from by decide]))
  have hz5 := hb5.size
  have hb46 := hb5.trans (hb6.mono hz5)
  have HB6 := Lib.hid (HB4.out.trans (hb46.mono HB4.out.size))
  have Hn6 := Lib.hid (Hn4.out.low hb46)
  have Ha6 := Lib.hid (Ha.out.low hb46)
  rw [small_twenty] at hob
  have Hb := Lib.hid (hob.base_le (Nat.le_trans HB4.out.size hz5))
  clear hob hb5 hb6 hr hb46 Hn4 HB4 Ha
  go_upto_region 5 with (first
    | (go_at_call 20
       refine (small_any _).mono ?_
       rintro e w7 ⟨v, rfl, hr, hb7⟩)
    | (go_at_call 13
       refine (progChoose_any smallL _ _ _ _ _ hr (Nat.le_refl _) small_few).mono ?_
       rintro e w8 ⟨vc, rfl, hoc, hb8⟩
       simp only [show errno (5 : Int) 0 = 2 from by decide]))
  have hz7 := hb7.size
  have hb68 := hb7.trans (hb8.mono hz7)
  have HB8 := Lib.hid (HB6.out.trans (hb68.mono HB6.out.size))
  have Hn8 := Lib.hid (Hn6.out.low hb68)
  have Ha8 := Lib.hid (Ha6.out.low hb68)
  have Hb8 := Lib.hid (Hb.out.low hb68)
  clear hoc hb7 hb8 hr hb68 Hn6 HB6 Ha6 Hb
  go_wp2_with (first
    | (go_at_call 12
       refine (row_any [2, 1, 1, 2, 1, 1] [2, 1, 1, 2, 1, 1] _ _ _ _ (own_rd_n (Hn8.out.alloc _) (by decide)) (rd_ints [2, 1, 1, 2, 1, 1] w8 (by decide) _)).mono ?_
       rintro e w9 ⟨rfl, n9, hw9⟩
       have hb9 : Below w8.heap.size w8 w9 := by rw [hw9]; exact drewN_low (below_box _ _) n9
       have HB9 := Lib.hid (HB8.out.trans (hb9.mono HB8.out.size))
       have Ha9 := Lib.hid (Ha8.out.low hb9)
       have Hb9 := Lib.hid (Hb8.out.low hb9)
       clear hw9 hb9 Hn8 Ha8 Hb8
       simp only [decide_true])
    | (go_at_call 12
       refine (row_any [0, 4] [0, 4] _ _ _ _ (own_rd_n (Ha9.out.alloc _) (by decide)) (rd_ints [0, 4] w9 (by decide) _)).mono ?_
       rintro e w10 ⟨rfl, n10, hw10⟩
       have hb10 : Below w9.heap.size w9 w10 := by rw [hw10]; exact drewN_low (below_box _ _) n10
       have HB10 := Lib.hid (HB9.out.trans (hb10.mono HB9.out.size))
       have Hb10 := Lib.hid (Hb9.out.low hb10)
       clear hw10 hb10 Hb9 Ha9
       simp only [decide_true])
    | (go_at_call 12
       refine (row_any [0, 1, 2, 4] [0, 1, 2, 4] _ _ _ _ (own_rd_n (Hb10.out.alloc _) (by decide)) (rd_ints [0, 1, 2, 4] w10 (by decide) _)).mono ?_
       rintro e w11 ⟨rfl, n11, hw11⟩
       have hb11 : Below w10.heap.size w10 w11 := by rw [hw11]; exact drewN_low (below_box _ _) n11
       have HB11 := Lib.hid (HB10.out.trans (hb11.mono HB10.out.size))
       clear hw11 hb11
       simp only [decide_true]))
  go_ret
  exact ⟨rfl, HB11.out⟩

end Go.Proofs.Ytikgjappablbhaa
