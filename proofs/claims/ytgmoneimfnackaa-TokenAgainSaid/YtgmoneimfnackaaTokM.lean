/-
  Walks over law12.Same, law12.text, Named, Name, Quote of both.
-/
import Derived.Test.YtgmoneimfnackaaTokL
namespace Go.Proofs.Ytgmoneimfnackaa
open Go.RowKit

theorem toList_inj2 (a b : ByteArray) : a.toList = b.toList ↔ a = b := by
  rw [ByteArray.toList_eq, ByteArray.toList_eq]
  constructor
  · intro h
    cases a; cases b
    simp only at h
    rw [Array.toList_inj.1 h]
  · rintro rfl; rfl

theorem run_ne_tk (a : ByteArray) (m n : Int) (w : World) :
    (binOp .neq 35 (.agg #[.int .i64 m, .string a, .int .i64 n]) (.agg #[.int .i64 m, .string a, .int .i64 n])).run Try.prog w = .ok (.bool false) w := by
  simp only [go_sem]
  simp [go_sem]
theorem run_eq_tk (a : ByteArray) (m n : Int) (w : World) :
    (binOp .eql 35 (.agg #[.int .i64 m, .string a, .int .i64 n]) (.agg #[.int .i64 m, .string a, .int .i64 n])).run Try.prog w = .ok (.bool true) w := by
  simp only [go_sem]
  simp [go_sem]

theorem tkRow_len (L : List Tk) : ∀ r ∈ L.map tkRow, r.length = 3 := by
  intro r hr
  obtain ⟨t, _, rfl⟩ := List.mem_map.1 hr
  rfl

/-- A token of a row. -/
theorem tk_at {w : World} {base n c k : Nat} {A : Option Addr} {L : List Tk} (h : Own w base 35 3 (.slice A n c) (L.map tkRow)) (hk : k < L.length) :
    ∃ g, A = some ⟨g, 0, none⟩ ∧ g < w.heap.size ∧ w.cell? ⟨g, k * 3, none⟩ = some (.int .i64 L[k].kind) ∧ w.cell? ⟨g, k * 3 + 1, none⟩ = some (.string L[k].text) ∧ w.cell? ⟨g, k * 3 + 2, none⟩ = some (.int .i64 L[k].pos) := by
  obtain ⟨g, hA, _, hg, hc, _⟩ := h.row_at (k := k) (by rw [List.length_map]; exact hk) (by decide)
  have h0 := hc 0 (by decide)
  have h1 := hc 1 (by decide)
  have h2 := hc 2 (by decide)
  simp only [List.getElem_map] at h0 h1 h2
  exact ⟨g, hA, hg, h0, h1, h2⟩

set_option maxHeartbeats 1000000 in
theorem same_any (L : List Tk) (v u : Value) (b1 b2 : Nat) (w : World) (hv : Own w b1 35 3 v (L.map tkRow)) (hu : Own w b2 35 3 u (L.map tkRow)) :
    Calls Try.prog 9 #[v, u] w (fun e w' => e = .returned (.bool true) ∧ Below w.heap.size w w') := by
  obtain ⟨A1, c1, rfl, hc1, hm1⟩ := hv.form
  obtain ⟨A2, c2, rfl, hc2, hm2⟩ := hu.form
  rw [List.length_map] at hc1 hc2 hv hu ⊢
  unfold maxLen at hm1 hm2
  have Hv := Lib.hid hv
  have Hu := Lib.hid hu
  clear hv hu
  go_enter Try.func9, Try.ntmps9
  go_wp2_with fail
  go_loopw [5] (fun i wr => ∃ k : Nat, k ≤ L.length ∧ i = .int .i64 k ∧ Below w.heap.size w wr) (fun i _ => L.length - (intOf i).toNat)
  case atStart => exact ⟨0, Nat.zero_le _, rfl, Below.refl _ _⟩
  case round =>
    obtain ⟨k, hk, rfl, hbel⟩ := hrel
    have Hbel := Lib.hid hbel
    clear hbel
    by_cases hlt : k < L.length
    · obtain ⟨g1, rfl, hg1, a0, a1, a2⟩ := tk_at (Hv.out.low Hbel.out) hlt
      obtain ⟨g2, rfl, hg2, d0, d1, d2⟩ := tk_at (Hu.out.low Hbel.out) hlt
      have hq := run_ne_tk L[k].text L[k].kind L[k].pos
      go_wp2_with fail
      go_quiet (fail)
      go_wp2_with fail
      go_roundw
      case rel => exact ⟨k + 1, by omega, by go_num, drewN_low Hbel.out _⟩
      case measure => simp [intOf]; omega
    · go_wp2_with fail
      go_ret
      exact ⟨rfl, Hbel.out⟩

/-! ## Names -/
/-- Is a text a name? -/
def nameB (s : ByteArray) : Bool := decide (1 ≤ s.size) && decide (s.size ≤ 40) && (bts s).all fun b => isWord b.toNat
/-- A name, as it is written. -/
def quoteR (s : ByteArray) : ByteArray × Bool :=
  if nameB s = true then (if isSmall ((bts s).getD 0 0).toNat then (s, true) else (⟨#[39]⟩ ++ s ++ ⟨#[39]⟩, true)) else (⟨#[]⟩, false)

theorem takeWhile_full {α : Type} {p : α → Bool} : ∀ {l : List α}, (l.takeWhile p).length = l.length ↔ l.all p = true
  | [] => by simp
  | a :: l => by
    have ih := takeWhile_full (p := p) (l := l)
    cases h : p a with
    | true => rw [List.takeWhile_cons_of_pos h]; simp [h, ih]
    | false => rw [List.takeWhile_cons_of_neg (by simp [h])]; simp [h]
theorem runTo_all {p : Nat → Bool} {l : List UInt8} : runTo p l 0 = l.length ↔ (l.all fun b => p b.toNat) = true := by
  unfold runTo
  rw [List.drop_zero, Nat.zero_add]
  exact takeWhile_full

set_option maxHeartbeats 1000000 in
theorem name_any (s : ByteArray) (w : World) : Calls Try.prog 13 #[.string s] w (TestRes (nameB s) w) := by
  by_cases h1 : 1 ≤ s.size
  · by_cases h2 : s.size ≤ 40
    · cases h3 : (bts s).all fun b => isWord b.toNat with
      | true =>
        have hn : nameB s = true := by unfold nameB; rw [h3]; simp [h1, h2]
        have h4 := runTo_all.2 h3
        rw [bts_len] at h4
        have H4 := Lib.hid h4
        have Hn := Lib.hid hn
        clear hn h4 h3
        go_enter Try.func13, Try.ntmps13
        go_wp2_with (go_at_call 19
                     refine (whileWord_any s 0 _ (by omega) (by omega)).mono ?_
                     rintro e1 w1 ⟨rfl, rfl⟩
                     rw [H4.out])
        go_ret
        exact ⟨by rw [Hn.out]; rfl, rfl⟩
      | false =>
        have hn : nameB s = false := by unfold nameB; rw [h3]; simp
        have h4 : ((runTo isWord (bts s) 0 : Nat) : Int) ≠ (s.size : Int) := fun e => by
          have : runTo isWord (bts s) 0 = (bts s).length := by rw [bts_len]; omega
          rw [runTo_all.1 this] at h3
          cases h3
        have h5 := runTo_le isWord (bts s) (i := 0) (Nat.zero_le _)
        rw [bts_len] at h5
        obtain ⟨r, hr⟩ : ∃ r, runTo isWord (bts s) 0 = r := ⟨_, rfl⟩
        rw [hr] at h4 h5
        have q : ((r : Int) == (s.size : Int)) = false := by rw [beq_eq_false_iff_ne]; exact h4
        have Hr := Lib.hid hr
        have Hn := Lib.hid hn
        clear hn h4 h3 hr
        go_enter Try.func13, Try.ntmps13
        go_wp2_with (go_at_call 19
                     refine (whileWord_any s 0 _ (by omega) (by omega)).mono ?_
                     rintro e1 w1 ⟨rfl, rfl⟩
                     rw [Hr.out])
        go_ret
        exact ⟨by rw [Hn.out]; rfl, rfl⟩
    · have hn : nameB s = false := by unfold nameB; simp [h2]
      have Hn := Lib.hid hn
      clear hn
      go_enter Try.func13, Try.ntmps13
      go_wp2_with fail
      go_ret
      exact ⟨by rw [Hn.out]; rfl, rfl⟩
  · have hn : nameB s = false := by unfold nameB; simp [h1]
    have Hn := Lib.hid hn
    clear hn
    go_enter Try.func13, Try.ntmps13
    go_wp2_with fail
    go_ret
    exact ⟨by rw [Hn.out]; rfl, rfl⟩

set_option maxHeartbeats 4000000 in
theorem named_any (s : ByteArray) (w : World) : Calls Try.prog 21 #[.string s] w (TestRes (nameB s) w) := by
  by_cases h1 : 1 ≤ s.size
  · by_cases h2 : s.size ≤ 40
    · have hn : nameB s = (bts s).all fun b => isWord b.toNat := by unfold nameB; simp [h1, h2]
      have Hn := Lib.hid hn
      clear hn
      go_enter Try.func21, Try.ntmps21
      go_wp2_with fail
      go_loopw [3] (fun i wr => ∃ k : Nat, k ≤ s.size ∧ i = .int .i64 k ∧ (∀ j, j < k → isWord ((bts s).getD j 0).toNat = true) ∧ wr = w) (fun i _ => s.size - (intOf i).toNat)
      case atStart => exact ⟨0, Nat.zero_le _, rfl, fun j hj => by omega, rfl⟩
      case round =>
        obtain ⟨k, hk, rfl, hall, rfl⟩ := hrel
        have Hall := Lib.hid hall
        clear hall
        by_cases hlt : k < s.size
        · have hb := bts_get s hlt
          cases hp : isWord s[k].toNat with
          | true =>
            have hp2 := hp
            unfold isWord isSmall isGreat isDigit at hp2
            simp only [Bool.or_eq_true, Bool.and_eq_true, decide_eq_true_eq] at hp2
            have Hb := Lib.hid hb
            have Hp := Lib.hid hp
            clear hp hb
            obtain ⟨c, hc⟩ : ∃ c, s[k].toNat = c := ⟨_, rfl⟩
            rw [hc] at hp2
            rcases hp2 with ((⟨p1, p2⟩ | ⟨p1, p2⟩) | ⟨p1, p2⟩) | p1
            all_goals
              have hnext : ∀ j, j < k + 1 → isWord ((bts s).getD j 0).toNat = true := fun j hj => by
                by_cases hjk : j = k
                · subst hjk; rw [Hb.out]; exact Hp.out
                · exact Hall.out j (by omega)
              have Hnext := Lib.hid hnext
              clear hnext
              go_wp2_with fail
              all_goals
                go_roundw
                case rel => exact ⟨k + 1, by omega, by go_num, Hnext.out, trivial⟩
                case measure => simp [intOf]; omega
          | false =>
            have hn2 : nameB s = false := by
              rw [Hn.out, Bool.eq_false_iff]
              intro h
              rw [List.all_eq_true] at h
              have := h ((bts s).getD k 0) (by rw [List.getD_eq_getElem?_getD, List.getElem?_eq_getElem (by rw [bts_len]; exact hlt)]; exact List.getElem_mem _)
              rw [hb, hp] at this
              cases this
            have hp2 := hp
            unfold isWord isSmall isGreat isDigit at hp2
            simp only [Bool.or_eq_false_iff, Bool.and_eq_false_iff, decide_eq_false_iff_not] at hp2
            have Hn2 := Lib.hid hn2
            clear hp hb hn2
            obtain ⟨c, hc⟩ : ∃ c, s[k].toNat = c := ⟨_, rfl⟩
            rw [hc] at hp2
            obtain ⟨⟨⟨p1, p2⟩, p3⟩, p4⟩ := hp2
            have q4 : ((c : Int) == 95) = false := by rw [beq_eq_false_iff_ne]; omega
            have q : c < 48 ∨ (57 < c ∧ c < 65) ∨ (90 < c ∧ c < 95) ∨ c = 96 ∨ 122 < c := by omega
            clear p1 p2 p3 p4
            rcases q with q | ⟨q, q2⟩ | ⟨q, q2⟩ | q | q
            all_goals
              go_wp2_with fail
              all_goals first
                | (exfalso
                   rename_i hx
                   simp at hx
                   omega)
                | (go_ret
                   exact ⟨by rw [Hn2.out]; rfl, rfl⟩)
        · have hk2 : k = s.size := by omega
          have hn2 : nameB s = true := by
            rw [Hn.out, List.all_eq_true]
            intro b hb
            obtain ⟨j, hj, rfl⟩ := List.getElem_of_mem hb
            have := Hall.out j (by rw [bts_len] at hj; omega)
            rw [List.getD_eq_getElem?_getD, List.getElem?_eq_getElem hj] at this
            exact this
          have Hn2 := Lib.hid hn2
          clear hn2
          go_wp2_with fail
          go_ret
          exact ⟨by rw [Hn2.out]; rfl, rfl⟩
    · have hn : nameB s = false := by unfold nameB; simp [h2]
      have Hn := Lib.hid hn
      clear hn
      go_enter Try.func21, Try.ntmps21
      go_wp2_with fail
      go_ret
      exact ⟨by rw [Hn.out]; rfl, rfl⟩
  · have hn : nameB s = false := by unfold nameB; simp [h1]
    have Hn := Lib.hid hn
    clear hn
    go_enter Try.func21, Try.ntmps21
    go_wp2_with fail
    go_ret
    exact ⟨by rw [Hn.out]; rfl, rfl⟩

end Go.Proofs.Ytgmoneimfnackaa
