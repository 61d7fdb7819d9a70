/-
  Walks over law12.wakes, TokenCuts, TokenNames.
-/
import Derived.Test.YtgmoneimfnackaaTokN
namespace Go.Proofs.Ytgmoneimfnackaa
open Go.RowKit

def wk1 : ByteArray := ⟨#[112, 40, 88, 41, 32, 60, 61, 62, 32, 126, 32, 113]⟩
def wkL : List Tk := [⟨1, ⟨#[112]⟩, 0⟩, ⟨6, ⟨#[40]⟩, 1⟩, ⟨2, ⟨#[88]⟩, 2⟩, ⟨6, ⟨#[41]⟩, 3⟩, ⟨6, ⟨#[60, 61, 62]⟩, 5⟩, ⟨6, ⟨#[126]⟩, 9⟩, ⟨1, ⟨#[113]⟩, 11⟩, ⟨7, ⟨#[]⟩, 12⟩]
theorem wk1_cut : cutR ⟨#[112, 40, 88, 41, 32, 60, 61, 62, 32, 126, 32, 113]⟩ = (wkL, 0, 0) := by decide +kernel
theorem wk2_cut : cutR ⟨#[97, 32, 35, 32, 98]⟩ = ([], 2, 220) := by decide +kernel
theorem wk3_quote : quoteR ⟨#[65, 98]⟩ = (⟨#[39, 65, 98, 39]⟩, true) := by decide +kernel
theorem wk4_quote : quoteR ⟨#[97, 45, 98]⟩ = (⟨#[]⟩, false) := by decide +kernel

theorem cell_keep {w w' : World} {m : Int} (hb : Below w.heap.size w w') (hz : 0 < w.heap.size) (h : w.cell? ⟨0, 0, none⟩ = some (.int .i64 m)) : w'.cell? ⟨0, 0, none⟩ = some (.int .i64 m) := (hb.cell (p := ⟨0, 0, none⟩) hz).trans h
theorem cell_pos {w : World} {m : Int} (h : w.cell? ⟨0, 0, none⟩ = some (.int .i64 m)) : 0 < w.heap.size := by
  by_cases hz : 0 < w.heap.size
  · exact hz
  · have : w.heap[0]? = none := Array.getElem?_eq_none (by omega)
    unfold World.cell? at h
    rw [this] at h
    cases h

set_option maxRecDepth 100000 in
set_option maxHeartbeats 1000000 in
theorem wakes_any (m : Int) (w : World) (hm : w.cell? ⟨0, 0, none⟩ = some (.int .i64 m)) : Calls Try.prog 10 #[] w (fun e w' => e = .returned (.bool true) ∧ Below w.heap.size w w') := by
  have hz := cell_pos hm
  have Hm := Lib.hid hm
  clear hm
  go_enter Try.func10, Try.ntmps10
  go_upto_region 2 with (go_at_call 7
                         refine (cut_any _ m _ Hm.out).mono ?_
                         rintro e w1 ⟨v1, rfl, hown1, hb1⟩
                         rw [wk1_cut] at hown1 ⊢
                         have Hown1 := Lib.hid hown1
                         have Hb1 := Lib.hid hb1
                         clear hown1 hb1)
  have hz1 := Hb1.out.size
  go_upto_region 3 with (go_at_call 7
                         refine (cut_any _ m _ (cell_keep Hb1.out hz Hm.out)).mono ?_
                         rintro e w2 ⟨v2, rfl, hown2, hb2⟩
                         rw [wk2_cut] at hown2 ⊢
                         have Hb2 := Lib.hid hb2
                         clear hown2 hb2)
  go_upto_region 4 with (go_at_call 11
                         refine (quote_any _ _).mono ?_
                         rintro e w3 ⟨rfl, rfl⟩
                         rw [wk3_quote])
  go_upto_region 5 with (go_at_call 11
                         refine (quote_any _ _).mono ?_
                         rintro e w4 ⟨rfl, rfl⟩
                         rw [wk4_quote])
  have hown := Hown1.out.low Hb2.out
  obtain ⟨A1, c1, rfl, hc1, hm1⟩ := hown.form
  rw [List.length_map] at hown hc1
  have hl8 : wkL.length = 8 := rfl
  rw [hl8] at hown hc1
  unfold maxLen at hm1
  obtain ⟨g1, rfl, hg1, a0, a1, a2⟩ := tk_at (k := 4) hown (by decide)
  obtain ⟨g2, hA2, hg2, d0, d1, d2⟩ := tk_at (k := 7) hown (by decide)
  injection hA2 with hA2
  injection hA2 with hA2
  subst hA2
  have e0 : (wkL[4]).kind = 6 := rfl
  have e1 : (wkL[4]).text = ⟨#[60, 61, 62]⟩ := rfl
  have e2 : (wkL[4]).pos = 5 := rfl
  have e3 : (wkL[7]).kind = 7 := rfl
  rw [e0] at a0
  rw [e1] at a1
  rw [e2] at a2
  rw [e3] at d0
  clear e0 e1 e2 e3 d1 d2
  have hq := run_eq_tk ⟨#[60, 61, 62]⟩ 6 5
  go_wp2_with fail
  go_ret
  exact ⟨rfl, Hb1.out.trans (Hb2.out.mono hz1)⟩

end Go.Proofs.Ytgmoneimfnackaa
