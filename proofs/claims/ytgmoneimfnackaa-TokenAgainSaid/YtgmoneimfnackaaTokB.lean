/-
  Walks over token.remark, token.sign, token.quoted.
-/
import Derived.Test.YtgmoneimfnackaaTokA
import Derived.Deep.Cut
import Derived.Deep.CutRange
import Derived.Deep.CutBlock
namespace Go.Proofs.Ytgmoneimfnackaa
open Go.RowKit

/-- Where a remark ends; the place itself, if none begins there. -/
def rmk (l : List UInt8) (i : Nat) : Nat :=
  if (l.drop i).head? = some 37 then (if 0 ≤ Lib.indexByte (l.drop i) 10 then i + (Lib.indexByte (l.drop i) 10).toNat else l.length)
  else if Lib.hasPrefix (l.drop i) [47, 42] then (if 0 ≤ Lib.index ((l.drop i).drop 2) [42, 47] then i + (Lib.index ((l.drop i).drop 2) [42, 47]).toNat + 4 else i) else i

theorem bts_extract (s : ByteArray) (i j : Nat) : bts (s.extract i j) = ((bts s).take j).drop i := by
  unfold bts
  rw [ByteArray.data_extract, Array.toList_extract]
  rw [List.drop_take]
theorem bts_from (s : ByteArray) (i : Nat) : bts (s.extract i s.size) = (bts s).drop i := by
  rw [bts_extract, ← bts_len, List.take_length]

set_option maxHeartbeats 1000000 in
theorem remark_any (s : ByteArray) (i : Nat) (m : Int) (w : World) (hi : i < s.size) (hs : s.size ≤ 1000000) (hm : w.cell? ⟨0, 0, none⟩ = some (.int .i64 m)) :
    Calls Try.prog 28 #[.string s, .int .i64 i] w (fun e w' => e = .returned (.int .i64 (rmk (bts s) i : Nat)) ∧ w' = w) := by
  have hfr := bts_from s i
  have hrz : (s.extract i s.size).size = s.size - i := by simp
  have hl := bts_len s
  generalize hV : rmk (bts s) i = V
  have Hm := Lib.hid hm
  have HV := Lib.hid hV
  clear hm hV
  go_enter Try.func28, Try.ntmps28
  go_upto_region 2 with fail
  generalize s.extract i s.size = r at hfr hrz ⊢
  have Hfr := Lib.hid hfr
  have Hl := Lib.hid hl
  clear hfr hl
  have hr0 : 0 < r.size := by omega
  have hr9 : r.size ≤ s.size := by omega
  clear hrz
  have hhd : (bts r).head? = some r[0] := by
    have := bts_get r hr0
    have h2 := bts_len r
    cases hb : bts r with
    | nil => rw [hb] at h2; simp at h2; omega
    | cons a l => rw [hb] at this; simpa using this
  have hge := Lib.indexByte_ge (bts r) 10
  have hge2 := Lib.index_ge ((bts r).drop 2) [42, 47]
  have hro := Lib.index_room ((bts r).drop 2) [42, 47]
  rw [List.length_drop, bts_len] at hro
  cases h37 : (((r[0].toNat : Nat) : Int) == 37) with
  | true =>
    have hh : r[0] = 37 := by
      have : r[0].toNat = 37 := by
        have := eq_of_beq h37
        omega
      exact UInt8.toNat_inj.1 this
    have Hc1 := Lib.hid (show (bts r).head? = some 37 by rw [hhd, hh])
    clear hhd hge2 hro hh
    by_cases hn : 0 ≤ Lib.indexByte (bts r) 10
    · obtain ⟨n, hne⟩ : ∃ n : Nat, Lib.indexByte (bts r) 10 = n := ⟨(Lib.indexByte (bts r) 10).toNat, by omega⟩
      have hlt : n < r.size := by
        have := (Lib.indexByte_some hne).1
        have h2 := (List.getElem?_eq_some_iff.1 this).1
        rwa [bts_len] at h2
      have Hne := Lib.hid hne
      clear hn hne hge
      go_wp2_with (go_at_call 34
                   refine (Try.strings_IndexByte r 10 _).mono ?_
                   rintro e w1 ⟨rfl, rfl⟩
                   rw [show Lib.indexByte r.data.toList ((10 : Int).toNat.toUInt8) = (n : Int) from Hne.out])
      go_ret
      refine ⟨?_, rfl⟩
      have : V = i + n := by
        rw [← HV.out]
        unfold rmk
        rw [← Hfr.out, if_pos Hc1.out, Hne.out, if_pos (by omega)]
        simp
      rw [this, Int.natCast_add]
      rfl
    · have Hne := Lib.hid (show Lib.indexByte (bts r) 10 = -1 by omega)
      have Hn := Lib.hid hn
      clear hn hge
      go_wp2_with (go_at_call 34
                   refine (Try.strings_IndexByte r 10 _).mono ?_
                   rintro e w1 ⟨rfl, rfl⟩
                   rw [show Lib.indexByte r.data.toList ((10 : Int).toNat.toUInt8) = (-1 : Int) from Hne.out])
      go_ret
      refine ⟨?_, rfl⟩
      have : V = s.size := by
        rw [← HV.out]
        unfold rmk
        rw [← Hfr.out, if_pos Hc1.out, if_neg (by have := Hn.out; omega)]
        exact Hl.out
      rw [this]
      rfl
  | false =>
    have hc1 : ¬ (bts r).head? = some 37 := by
      rw [hhd]
      intro h
      injection h with h
      rw [h] at h37
      revert h37
      decide
    have Hc1 := Lib.hid hc1
    clear hc1 hhd hge
    cases hp : Lib.hasPrefix (bts r) [47, 42] with
    | false =>
      have Hp := Lib.hid hp
      clear hp hge2 hro
      go_wp2_with (go_at_call 35
                   refine (Try.strings_HasPrefix r _ _).mono ?_
                   rintro e w1 ⟨rfl, rfl⟩
                   rw [show Lib.hasPrefix r.data.toList (⟨#[47, 42]⟩ : ByteArray).data.toList = false from Hp.out])
      go_ret
      refine ⟨?_, rfl⟩
      have : V = i := by
        rw [← HV.out]
        unfold rmk
        rw [← Hfr.out, if_neg Hc1.out, if_neg (by rw [Hp.out]; decide)]
      rw [this]
      rfl
    | true =>
      have hr2 : 2 ≤ r.size := by
        have := (List.isPrefixOf_iff_prefix.1 hp).length_le
        rwa [bts_len] at this
      have Hp := Lib.hid hp
      have hf2 := bts_from r 2
      have Hf2 := Lib.hid hf2
      clear hp hf2
      by_cases hn : 0 ≤ Lib.index ((bts r).drop 2) [42, 47]
      · obtain ⟨n, hne⟩ : ∃ n : Nat, Lib.index ((bts r).drop 2) [42, 47] = n := ⟨(Lib.index ((bts r).drop 2) [42, 47]).toNat, by omega⟩
        have hlt : n + 4 ≤ r.size := by
          have := hro hn
          rw [hne] at this
          simp at this
          omega
        have Hne := Lib.hid hne
        have Hne2 := Lib.hid (show Lib.index (bts (r.extract 2 r.size)) [42, 47] = (n : Int) by rw [Hf2.out]; exact hne)
        clear hn hne hge2 hro
        go_wp2_with (first
          | (go_at_call 35
             refine (Try.strings_HasPrefix r _ _).mono ?_
             rintro e w1 ⟨rfl, rfl⟩
             rw [show Lib.hasPrefix r.data.toList (⟨#[47, 42]⟩ : ByteArray).data.toList = true from Hp.out])
          | (go_at_call 36
             refine (Try.strings_Index (r.extract 2 r.size) _ m _ (by simp; omega) Hm.out).mono ?_
             rintro e w1 ⟨rfl, rfl⟩
             rw [show Lib.index (r.extract 2 r.size).data.toList (⟨#[42, 47]⟩ : ByteArray).data.toList = (n : Int) from Hne2.out]))
        go_ret
        refine ⟨?_, rfl⟩
        have : V = i + n + 4 := by
          rw [← HV.out]
          unfold rmk
          rw [← Hfr.out, if_neg Hc1.out, if_pos Hp.out, Hne.out, if_pos (by omega)]
          simp
        rw [this, Int.natCast_add, Int.natCast_add]
        rfl
      · have Hne := Lib.hid (show Lib.index ((bts r).drop 2) [42, 47] = -1 by omega)
        have Hn := Lib.hid hn
        have Hne2 := Lib.hid (show Lib.index (bts (r.extract 2 r.size)) [42, 47] = (-1 : Int) by rw [Hf2.out]; exact Hne.out)
        clear hn hge2 hro
        go_wp2_with (first
          | (go_at_call 35
             refine (Try.strings_HasPrefix r _ _).mono ?_
             rintro e w1 ⟨rfl, rfl⟩
             rw [show Lib.hasPrefix r.data.toList (⟨#[47, 42]⟩ : ByteArray).data.toList = true from Hp.out])
          | (go_at_call 36
             refine (Try.strings_Index (r.extract 2 r.size) _ m _ (by simp; omega) Hm.out).mono ?_
             rintro e w1 ⟨rfl, rfl⟩
             rw [show Lib.index (r.extract 2 r.size).data.toList (⟨#[42, 47]⟩ : ByteArray).data.toList = (-1 : Int) from Hne2.out]))
        go_ret
        refine ⟨?_, rfl⟩
        have : V = i := by
          rw [← HV.out]
          unfold rmk
          rw [← Hfr.out, if_neg Hc1.out, if_pos Hp.out, if_neg (by have := Hn.out; omega)]
        rw [this]
        rfl

/-! ## Signs -/
def signsL : List (List UInt8) := [[60, 61, 62], [60, 126, 62], [61, 62], [60, 61], [126, 124], [126, 38], [33, 61]]
def singles : List UInt8 := [40, 41, 91, 93, 44, 46, 58, 38, 124, 126, 61, 33, 63]
/-- How long a sign is with which a text goes on; 0: none. -/
def sgn (l : List UInt8) : Nat := match signsL.find? (fun x => Lib.hasPrefix l x) with | some x => x.length | none => if 0 ≤ Lib.indexByte singles (l.headD 0) then 1 else 0

theorem find_at {α : Type} {p : α → Bool} {L : List α} {k : Nat} (hk : k < L.length) (hn : ∀ x ∈ L.take k, p x = false) (hp : p L[k] = true) : L.find? p = some L[k] := by
  have h1 : L = L.take k ++ L[k] :: L.drop (k + 1) := by rw [← List.drop_eq_getElem_cons hk, List.take_append_drop]
  have h2 : (L.take k).find? p = none := List.find?_eq_none.2 fun x hx => by rw [hn x hx]; decide
  conv => lhs; rw [h1]
  rw [List.find?_append, h2, Option.none_or, List.find?_cons_of_pos hp]

theorem hix0 (w : World) : (Instr.index 51 (.agg #[Value.string ⟨#[60, 61, 62]⟩, Value.string ⟨#[60, 126, 62]⟩, Value.string ⟨#[61, 62]⟩, Value.string ⟨#[60, 61]⟩, Value.string ⟨#[126, 124]⟩, Value.string ⟨#[126, 38]⟩, Value.string ⟨#[33, 61]⟩]) (.int .i64 0)).run Try.prog w = .ok (.string ⟨#[60, 61, 62]⟩) w := by kernel_rfl
theorem hix1 (w : World) : (Instr.index 51 (.agg #[Value.string ⟨#[60, 61, 62]⟩, Value.string ⟨#[60, 126, 62]⟩, Value.string ⟨#[61, 62]⟩, Value.string ⟨#[60, 61]⟩, Value.string ⟨#[126, 124]⟩, Value.string ⟨#[126, 38]⟩, Value.string ⟨#[33, 61]⟩]) (.int .i64 1)).run Try.prog w = .ok (.string ⟨#[60, 126, 62]⟩) w := by kernel_rfl
theorem hix2 (w : World) : (Instr.index 51 (.agg #[Value.string ⟨#[60, 61, 62]⟩, Value.string ⟨#[60, 126, 62]⟩, Value.string ⟨#[61, 62]⟩, Value.string ⟨#[60, 61]⟩, Value.string ⟨#[126, 124]⟩, Value.string ⟨#[126, 38]⟩, Value.string ⟨#[33, 61]⟩]) (.int .i64 2)).run Try.prog w = .ok (.string ⟨#[61, 62]⟩) w := by kernel_rfl
theorem hix3 (w : World) : (Instr.index 51 (.agg #[Value.string ⟨#[60, 61, 62]⟩, Value.string ⟨#[60, 126, 62]⟩, Value.string ⟨#[61, 62]⟩, Value.string ⟨#[60, 61]⟩, Value.string ⟨#[126, 124]⟩, Value.string ⟨#[126, 38]⟩, Value.string ⟨#[33, 61]⟩]) (.int .i64 3)).run Try.prog w = .ok (.string ⟨#[60, 61]⟩) w := by kernel_rfl
theorem hix4 (w : World) : (Instr.index 51 (.agg #[Value.string ⟨#[60, 61, 62]⟩, Value.string ⟨#[60, 126, 62]⟩, Value.string ⟨#[61, 62]⟩, Value.string ⟨#[60, 61]⟩, Value.string ⟨#[126, 124]⟩, Value.string ⟨#[126, 38]⟩, Value.string ⟨#[33, 61]⟩]) (.int .i64 4)).run Try.prog w = .ok (.string ⟨#[126, 124]⟩) w := by kernel_rfl
theorem hix5 (w : World) : (Instr.index 51 (.agg #[Value.string ⟨#[60, 61, 62]⟩, Value.string ⟨#[60, 126, 62]⟩, Value.string ⟨#[61, 62]⟩, Value.string ⟨#[60, 61]⟩, Value.string ⟨#[126, 124]⟩, Value.string ⟨#[126, 38]⟩, Value.string ⟨#[33, 61]⟩]) (.int .i64 5)).run Try.prog w = .ok (.string ⟨#[126, 38]⟩) w := by kernel_rfl
theorem hix6 (w : World) : (Instr.index 51 (.agg #[Value.string ⟨#[60, 61, 62]⟩, Value.string ⟨#[60, 126, 62]⟩, Value.string ⟨#[61, 62]⟩, Value.string ⟨#[60, 61]⟩, Value.string ⟨#[126, 124]⟩, Value.string ⟨#[126, 38]⟩, Value.string ⟨#[33, 61]⟩]) (.int .i64 6)).run Try.prog w = .ok (.string ⟨#[33, 61]⟩) w := by kernel_rfl
set_option maxHeartbeats 4000000 in
theorem sign_any (r : ByteArray) (w : World) (h0 : 0 < r.size) (hs : r.size ≤ 1000000) :
    Calls Try.prog 38 #[.string r] w (fun e w' => e = .returned (.int .i64 (sgn (bts r) : Nat)) ∧ Below w.heap.size w w') := by
  generalize hV : sgn (bts r) = V
  have HV := Lib.hid hV
  clear hV
  go_enter Try.func38, Try.ntmps38
  go_wp2_with fail
  go_loopw [8] (fun i wr => ∃ k : Nat, k ≤ 7 ∧ i = .int .i64 k ∧ (∀ x ∈ signsL.take k, Lib.hasPrefix (bts r) x = false) ∧ Below w.heap.size w wr) (fun i _ => 7 - (intOf i).toNat)
  case atStart => exact ⟨0, Nat.zero_le _, rfl, by simp, below_box w _⟩
  case round =>
    obtain ⟨k, hk, rfl, hno, hbel⟩ := hrel
    have Hno := Lib.hid hno
    have Hbel := Lib.hid hbel
    clear hno hbel
    by_cases hlt : k < 7
    · rcases (by omega : k = 0 ∨ k = 1 ∨ k = 2 ∨ k = 3 ∨ k = 4 ∨ k = 5 ∨ k = 6) with rfl | rfl | rfl | rfl | rfl | rfl | rfl
      · cases hp : Lib.hasPrefix (bts r) [60, 61, 62] with
        | true =>
          have Hp := Lib.hid hp
          clear hp
          have hq := hix0 wr
          go_wp2_with (go_at_call 35
                       refine (Try.strings_HasPrefix r _ _).mono ?_
                       rintro e w1 ⟨rfl, rfl⟩
                       rw [show Lib.hasPrefix r.data.toList (⟨#[60, 61, 62]⟩ : ByteArray).data.toList = true from Hp.out])
          go_ret
          refine ⟨?_, Hbel.out⟩
          have : V = ([60, 61, 62] : List UInt8).length := by
            rw [← HV.out]
            unfold sgn
            rw [find_at (k := 0) (by decide) Hno.out Hp.out]
            rfl
          rw [this]
          rfl
        | false =>
          have Hp := Lib.hid hp
          clear hp
          have hq := hix0 wr
          go_wp2_with (go_at_call 35
                       refine (Try.strings_HasPrefix r _ _).mono ?_
                       rintro e w1 ⟨rfl, rfl⟩
                       rw [show Lib.hasPrefix r.data.toList (⟨#[60, 61, 62]⟩ : ByteArray).data.toList = false from Hp.out])
          go_roundw
          case rel =>
            refine ⟨0 + 1, by omega, by go_num, fun x hx => ?_, Hbel.out⟩
            rw [List.take_succ_eq_append_getElem (by decide)] at hx
            rcases List.mem_append.1 hx with h | h
            · exact Hno.out x h
            · rw [List.mem_singleton.1 h]; exact Hp.out
          case measure => simp [intOf]
      · cases hp : Lib.hasPrefix (bts r) [60, 126, 62] with
        | true =>
          have Hp := Lib.hid hp
          clear hp
          have hq := hix1 wr
          go_wp2_with (go_at_call 35
                       refine (Try.strings_HasPrefix r _ _).mono ?_
                       rintro e w1 ⟨rfl, rfl⟩
                       rw [show Lib.hasPrefix r.data.toList (⟨#[60, 126, 62]⟩ : ByteArray).data.toList = true from Hp.out])
          go_ret
          refine ⟨?_, Hbel.out⟩
          have : V = ([60, 126, 62] : List UInt8).length := by
            rw [← HV.out]
            unfold sgn
            rw [find_at (k := 1) (by decide) Hno.out Hp.out]
            rfl
          rw [this]
          rfl
        | false =>
          have Hp := Lib.hid hp
          clear hp
          have hq := hix1 wr
          go_wp2_with (go_at_call 35
                       refine (Try.strings_HasPrefix r _ _).mono ?_
                       rintro e w1 ⟨rfl, rfl⟩
                       rw [show Lib.hasPrefix r.data.toList (⟨#[60, 126, 62]⟩ : ByteArray).data.toList = false from Hp.out])
          go_roundw
          case rel =>
            refine ⟨1 + 1, by omega, by go_num, fun x hx => ?_, Hbel.out⟩
            rw [List.take_succ_eq_append_getElem (by decide)] at hx
            rcases List.mem_append.1 hx with h | h
            · exact Hno.out x h
            · rw [List.mem_singleton.1 h]; exact Hp.out
          case measure => simp [intOf]
      · cases hp : Lib.hasPrefix (bts r) [61, 62] with
        | true =>
          have Hp := Lib.hid hp
          clear hp
          have hq := hix2 wr
          go_wp2_with (go_at_call 35
                       refine (Try.strings_HasPrefix r _ _).mono ?_
                       rintro e w1 ⟨rfl, rfl⟩
                       rw [show Lib.hasPrefix r.data.toList (⟨#[61, 62]⟩ : ByteArray).data.toList = true from Hp.out])
          go_ret
          refine ⟨?_, Hbel.out⟩
          have : V = ([61, 62] : List UInt8).length := by
            rw [← HV.out]
            unfold sgn
            rw [find_at (k := 2) (by decide) Hno.out Hp.out]
            rfl
          rw [this]
          rfl
        | false =>
          have Hp := Lib.hid hp
          clear hp
          have hq := hix2 wr
          go_wp2_with (go_at_call 35
                       refine (Try.strings_HasPrefix r _ _).mono ?_
                       rintro e w1 ⟨rfl, rfl⟩
                       rw [show Lib.hasPrefix r.data.toList (⟨#[61, 62]⟩ : ByteArray).data.toList = false from Hp.out])
          go_roundw
          case rel =>
            refine ⟨2 + 1, by omega, by go_num, fun x hx => ?_, Hbel.out⟩
            rw [List.take_succ_eq_append_getElem (by decide)] at hx
            rcases List.mem_append.1 hx with h | h
            · exact Hno.out x h
            · rw [List.mem_singleton.1 h]; exact Hp.out
          case measure => simp [intOf]
      · cases hp : Lib.hasPrefix (bts r) [60, 61] with
        | true =>
          have Hp := Lib.hid hp
          clear hp
          have hq := hix3 wr
          go_wp2_with (go_at_call 35
                       refine (Try.strings_HasPrefix r _ _).mono ?_
                       rintro e w1 ⟨rfl, rfl⟩
                       rw [show Lib.hasPrefix r.data.toList (⟨#[60, 61]⟩ : ByteArray).data.toList = true from Hp.out])
          go_ret
          refine ⟨?_, Hbel.out⟩
          have : V = ([60, 61] : List UInt8).length := by
            rw [← HV.out]
            unfold sgn
            rw [find_at (k := 3) (by decide) Hno.out Hp.out]
            rfl
          rw [this]
          rfl
        | false =>
          have Hp := Lib.hid hp
          clear hp
          have hq := hix3 wr
          go_wp2_with (go_at_call 35
                       refine (Try.strings_HasPrefix r _ _).mono ?_
                       rintro e w1 ⟨rfl, rfl⟩
                       rw [show Lib.hasPrefix r.data.toList (⟨#[60, 61]⟩ : ByteArray).data.toList = false from Hp.out])
          go_roundw
          case rel =>
            refine ⟨3 + 1, by omega, by go_num, fun x hx => ?_, Hbel.out⟩
            rw [List.take_succ_eq_append_getElem (by decide)] at hx
            rcases List.mem_append.1 hx with h | h
            · exact Hno.out x h
            · rw [List.mem_singleton.1 h]; exact Hp.out
          case measure => simp [intOf]
      · cases hp : Lib.hasPrefix (bts r) [126, 124] with
        | true =>
          have Hp := Lib.hid hp
          clear hp
          have hq := hix4 wr
          go_wp2_with (go_at_call 35
                       refine (Try.strings_HasPrefix r _ _).mono ?_
                       rintro e w1 ⟨rfl, rfl⟩
                       rw [show Lib.hasPrefix r.data.toList (⟨#[126, 124]⟩ : ByteArray).data.toList = true from Hp.out])
          go_ret
          refine ⟨?_, Hbel.out⟩
          have : V = ([126, 124] : List UInt8).length := by
            rw [← HV.out]
            unfold sgn
            rw [find_at (k := 4) (by decide) Hno.out Hp.out]
            rfl
          rw [this]
          rfl
        | false =>
          have Hp := Lib.hid hp
          clear hp
          have hq := hix4 wr
          go_wp2_with (go_at_call 35
                       refine (Try.strings_HasPrefix r _ _).mono ?_
                       rintro e w1 ⟨rfl, rfl⟩
                       rw [show Lib.hasPrefix r.data.toList (⟨#[126, 124]⟩ : ByteArray).data.toList = false from Hp.out])
          go_roundw
          case rel =>
            refine ⟨4 + 1, by omega, by go_num, fun x hx => ?_, Hbel.out⟩
            rw [List.take_succ_eq_append_getElem (by decide)] at hx
            rcases List.mem_append.1 hx with h | h
            · exact Hno.out x h
            · rw [List.mem_singleton.1 h]; exact Hp.out
          case measure => simp [intOf]
      · cases hp : Lib.hasPrefix (bts r) [126, 38] with
        | true =>
          have Hp := Lib.hid hp
          clear hp
          have hq := hix5 wr
          go_wp2_with (go_at_call 35
                       refine (Try.strings_HasPrefix r _ _).mono ?_
                       rintro e w1 ⟨rfl, rfl⟩
                       rw [show Lib.hasPrefix r.data.toList (⟨#[126, 38]⟩ : ByteArray).data.toList = true from Hp.out])
          go_ret
          refine ⟨?_, Hbel.out⟩
          have : V = ([126, 38] : List UInt8).length := by
            rw [← HV.out]
            unfold sgn
            rw [find_at (k := 5) (by decide) Hno.out Hp.out]
            rfl
          rw [this]
          rfl
        | false =>
          have Hp := Lib.hid hp
          clear hp
          have hq := hix5 wr
          go_wp2_with (go_at_call 35
                       refine (Try.strings_HasPrefix r _ _).mono ?_
                       rintro e w1 ⟨rfl, rfl⟩
                       rw [show Lib.hasPrefix r.data.toList (⟨#[126, 38]⟩ : ByteArray).data.toList = false from Hp.out])
          go_roundw
          case rel =>
            refine ⟨5 + 1, by omega, by go_num, fun x hx => ?_, Hbel.out⟩
            rw [List.take_succ_eq_append_getElem (by decide)] at hx
            rcases List.mem_append.1 hx with h | h
            · exact Hno.out x h
            · rw [List.mem_singleton.1 h]; exact Hp.out
          case measure => simp [intOf]
      · cases hp : Lib.hasPrefix (bts r) [33, 61] with
        | true =>
          have Hp := Lib.hid hp
          clear hp
          have hq := hix6 wr
          go_wp2_with (go_at_call 35
                       refine (Try.strings_HasPrefix r _ _).mono ?_
                       rintro e w1 ⟨rfl, rfl⟩
                       rw [show Lib.hasPrefix r.data.toList (⟨#[33, 61]⟩ : ByteArray).data.toList = true from Hp.out])
          go_ret
          refine ⟨?_, Hbel.out⟩
          have : V = ([33, 61] : List UInt8).length := by
            rw [← HV.out]
            unfold sgn
            rw [find_at (k := 6) (by decide) Hno.out Hp.out]
            rfl
          rw [this]
          rfl
        | false =>
          have Hp := Lib.hid hp
          clear hp
          have hq := hix6 wr
          go_wp2_with (go_at_call 35
                       refine (Try.strings_HasPrefix r _ _).mono ?_
                       rintro e w1 ⟨rfl, rfl⟩
                       rw [show Lib.hasPrefix r.data.toList (⟨#[33, 61]⟩ : ByteArray).data.toList = false from Hp.out])
          go_roundw
          case rel =>
            refine ⟨6 + 1, by omega, by go_num, fun x hx => ?_, Hbel.out⟩
            rw [List.take_succ_eq_append_getElem (by decide)] at hx
            rcases List.mem_append.1 hx with h | h
            · exact Hno.out x h
            · rw [List.mem_singleton.1 h]; exact Hp.out
          case measure => simp [intOf]
    · have hkk : k = 7 := by omega
      subst hkk
      have hns : signsL.find? (fun x => Lib.hasPrefix (bts r) x) = none := List.find?_eq_none.2 fun x hx => by rw [Hno.out x (by simpa [signsL] using hx)]; decide
      have hhd : (bts r).headD 0 = r[0] := by
        have := bts_get r h0
        have h2 := bts_len r
        cases hb : bts r with
        | nil => rw [hb] at h2; simp at h2; omega
        | cons a l => rw [hb] at this; simpa using this
      have hge := Lib.indexByte_ge singles r[0]
      have hbt : ((r[0].toNat : Nat) : Int).toNat.toUInt8 = r[0] := by simp
      have Hns := Lib.hid hns
      have Hhd := Lib.hid hhd
      have Hbt := Lib.hid hbt
      clear hns hhd hbt
      by_cases hn : 0 ≤ Lib.indexByte singles r[0]
      · obtain ⟨n, hne⟩ : ∃ n : Nat, Lib.indexByte singles r[0] = n := ⟨(Lib.indexByte singles r[0]).toNat, by omega⟩
        have Hne := Lib.hid hne
        clear hn hne hge
        go_wp2_with (go_at_call 34
                     refine (Try.strings_IndexByte _ r[0].toNat _).mono ?_
                     rintro e w1 ⟨rfl, rfl⟩
                     rw [Hbt.out, show Lib.indexByte (⟨#[40, 41, 91, 93, 44, 46, 58, 38, 124, 126, 61, 33, 63]⟩ : ByteArray).data.toList r[0] = (n : Int) from Hne.out])
        go_ret
        refine ⟨?_, Hbel.out⟩
        have : V = 1 := by
          rw [← HV.out]
          unfold sgn
          rw [Hns.out, Hhd.out, Hne.out]
          simp
        rw [this]
        rfl
      · have Hne := Lib.hid (show Lib.indexByte singles r[0] = -1 by omega)
        clear hn hge
        go_wp2_with (go_at_call 34
                     refine (Try.strings_IndexByte _ r[0].toNat _).mono ?_
                     rintro e w1 ⟨rfl, rfl⟩
                     rw [Hbt.out, show Lib.indexByte (⟨#[40, 41, 91, 93, 44, 46, 58, 38, 124, 126, 61, 33, 63]⟩ : ByteArray).data.toList r[0] = (-1 : Int) from Hne.out])
        go_ret
        refine ⟨?_, Hbel.out⟩
        have : V = 0 := by
          rw [← HV.out]
          unfold sgn
          rw [Hns.out, Hhd.out, Hne.out]
          simp
        rw [this]
        rfl

end Go.Proofs.Ytgmoneimfnackaa
