/-
  Walk over the chooser's triggered.
-/
import Derived.Test.YtikgjappablbhaaSineD
namespace Go.Proofs.Ytikgjappablbhaa
open Go.RowKit

/-- What the chooser holds, of what triggers. -/
structure ChT (w : World) (cb gc gt gh : Nat) (ov : Value) (tol : Nat) (fc ft : Sy → Option Value) : Prop where
  hb : w.heap[cb]? = some (.cells #[ov, .map (some gc), .map (some gt), .map (some gh), .int .i64 tol] 64 (0, 0))
  hc : MapF w gc symV fc
  ht : MapF w gt symV ft

theorem ChT.low {w w' : World} {cb gc gt gh : Nat} {ov : Value} {tol : Nat} {fc ft : Sy → Option Value} (h : ChT w cb gc gt gh ov tol fc ft) (hb : Below w.heap.size w w') : ChT w' cb gc gt gh ov tol fc ft :=
  ⟨(hb.block _ (ltOf h.hb)).trans h.hb, h.hc.low hb, h.ht.low hb⟩

theorem box5 {w : World} {b : Nat} {v0 v1 v2 v3 v4 : Value} {t : TypeId} (h : w.heap[b]? = some (.cells #[v0, v1, v2, v3, v4] t (0, 0))) :
    w.cell? ⟨b, 1, none⟩ = some v1 ∧ w.cell? ⟨b, 2, none⟩ = some v2 ∧ w.cell? ⟨b, 3, none⟩ = some v3 ∧ w.cell? ⟨b, 4, none⟩ = some v4 ∧ w.cell? ⟨b, 0, none⟩ = some v0 :=
  ⟨by rw [cell_of_row w b 1 _ _ _ h]; rfl, by rw [cell_of_row w b 2 _ _ _ h]; rfl, by rw [cell_of_row w b 3 _ _ _ h]; rfl, by rw [cell_of_row w b 4 _ _ _ h]; rfl, by rw [cell_of_row w b 0 _ _ _ h]; rfl⟩

set_option maxHeartbeats 1000000 in
theorem chTrig_any (O : List Sy) (c : Sy → Nat) (th : Sy → Bool) (tol cb gc gt gh : Nat) (ov v1 : Value) (fc ft : Sy → Option Value) (B : Nat) (w : World) (h1 : Rd w B (.sl 3 (O.map encSy)) v1) (hst : ChT w cb gc gt gh ov tol fc ft)
    (hfc : ∀ s, (fc s).getD (.int .i64 0) = .int .i64 (c s)) (hft : ∀ s, (ft s).getD (.bool false) = .bool (th s)) (hB : B ≤ w.heap.size) (hc : ∀ s, c s ≤ 1000) (htol : tol ≤ 1000) :
    Calls Try.prog 34 #[.pointer (some ⟨cb, 0, none⟩), v1] w fun e w' => e = .returned (.bool (trig c th tol O)) ∧ Below w.heap.size w w' := by
  obtain ⟨A1, c1, rfl, hc1, hn1, hm1⟩ := h1.sl_form
  simp only [List.length_map] at hc1 hn1 h1 ⊢
  unfold maxLen at hm1
  have H1 := Lib.hid h1
  have Hst := Lib.hid hst
  have hlk : ∀ (W : World), Below w.heap.size w W → ∀ (s : Sy) (n : Nat), (Instr.lookup 52 (.map (some gc)) (.agg #[.string s.1, .int .i64 s.2.1, .bool s.2.2]) false).run Try.prog (W.drewN n) = .ok (.int .i64 (c s)) (W.drewN n) := fun W hW s n => by
    have := MapF.lookup ((Hst.out.hc.low hW).drewN n) symK Try.underlying52 (zeroI _) s
    rw [hfc s] at this
    exact this
  have hlt : ∀ (W : World), Below w.heap.size w W → ∀ (s : Sy) (n : Nat), (Instr.lookup 59 (.map (some gt)) (.agg #[.string s.1, .int .i64 s.2.1, .bool s.2.2]) false).run Try.prog (W.drewN n) = .ok (.bool (th s)) (W.drewN n) := fun W hW s n => by
    have := MapF.lookup ((Hst.out.ht.low hW).drewN n) symK Try.underlying59 (zeroB _) s
    rw [hft s] at this
    exact this
  have Hlk := Lib.hid hlk
  have Hlt := Lib.hid hlt
  clear h1 hst hlk hlt
  by_cases he : O = []
  · subst he
    have hz : (((0 : Nat) : Int) == 0) = true := by decide
    go_enter Try.func34, Try.ntmps34
    go_wp2_with fail
    go_ret
    exact ⟨rfl, Below.refl _ _⟩
  · have hlen : 0 < O.length := List.length_pos_iff.2 he
    have hz : (((O.length : Nat) : Int) == 0) = false := by simp; omega
    have hiso : O.isEmpty = false := by simpa using he
    obtain ⟨a1, o1, rfl, hb1, d0, d1, d2⟩ := H1.out.sy_at hlen
    simp only [Nat.zero_mul, Nat.add_zero] at d0 d1 d2
    obtain ⟨e1, e2, e3, e4, e0⟩ := box5 Hst.out.hb
    have hl0 := Hlk.out w (Below.refl _ _) O[0]
    have Hiso := Lib.hid hiso
    clear he hiso
    go_enter Try.func34, Try.ntmps34
    go_wp2_with fail
    go_quiet (fail)
    go_wp2_with fail
    have hb0 := drewN_low (Below.refl w.heap.size w) nq
    have Hb0 := Lib.hid hb0
    clear hb0 d0 d1 d2 e0 e1 e2 e3 e4 hl0
    generalize w.drewN nq = wo at *
    go_loopw [5, 23] (fun m i wr => ∃ k : Nat, k ≤ O.length ∧ i = .int .i64 k ∧ m = .int .i64 (leastTo c O k) ∧ Below w.heap.size w wr) (fun _ i _ => O.length - (intOf i).toNat)
    case atStart => exact ⟨0, Nat.zero_le _, rfl, by rw [leastTo_zero c O hlen], Hb0.out⟩
    case round =>
      clear Hb0
      obtain ⟨k, hk, rfl, rfl, hbel⟩ := hrel
      have hz2 := hbel.size
      have hle := leastTo_le c 1000 hc O k
      have hst1 := Hst.out.low hbel
      have hlcb := ltOf hst1.hb
      obtain ⟨e1, e2, e3, e4, e0⟩ := box5 hst1.hb
      have Hbel := Lib.hid hbel
      clear hbel hst1 e2 e3 e4 e0
      by_cases hlt : k < O.length
      · obtain ⟨a1', o1', ha1, hb1', d0, d1, d2⟩ := (H1.out.low Hbel.out hB).sy_at hlt
        injection ha1 with ha1
        injection ha1 with ha1 ha2 _
        subst ha1 ha2
        have hck := hc O[k]
        have hlk := Hlk.out (wr.alloc (Obj.cells #[.string O[k].1, .int .i64 O[k].2.1, .bool O[k].2.2] 31)) (Hbel.out.trans ((below_box wr _).mono hz2)) O[k]
        have Hsucc := Lib.hid (leastTo_succ c O k hlt)
        go_wp2_with fail
        go_quiet (fail)
        go_wp2_with fail
        go_roundw
        case rel => exact ⟨k + 1, by omega, by go_num, by rw [Hsucc.out]; congr 1; split <;> omega, drewN_low (Hbel.out.trans ((below_box wr _).mono hz2)) _⟩
        case measure => simp [intOf]; omega
      · obtain rfl : k = O.length := by omega
        have htr : trig c th tol O = O.any (trigs c th tol (least c O)) := by unfold trig; rw [Hiso.out]; rfl
        rw [show leastTo c O O.length = least c O from rfl] at hle ⊢
        generalize least c O = m at hle htr
        have Htr := Lib.hid htr
        clear htr hlt
        have hm0 : (0 : Int) ≤ (tol : Int) * (m : Int) := Int.mul_nonneg (by omega) (by omega)
        have hm1 : (tol : Int) * (m : Int) ≤ 1000000 := by
          have : tol * m ≤ 1000 * 1000 := Nat.mul_le_mul htol hle
          have h2 : ((tol * m : Nat) : Int) ≤ ((1000 * 1000 : Nat) : Int) := by omega
          rw [Int.natCast_mul] at h2
          omega
        clear e1
        go_wp2_with fail
        obtain ⟨wq, rfl⟩ : ∃ wq : World, wq = wr := ⟨_, rfl⟩
        go_loopw [38] (fun i wr => ∃ k : Nat, k ≤ O.length ∧ i = .int .i64 k ∧ (O.take k).any (trigs c th tol m) = false ∧ Below w.heap.size w wr) (fun i _ => O.length - (intOf i).toNat)
        case atStart => exact ⟨0, Nat.zero_le _, rfl, rfl, Hbel.out⟩
        case round =>
          clear Hbel hz2 hlcb
          obtain ⟨k, hk, rfl, hno, hbel⟩ := hrel
          have hz2 := hbel.size
          have hst1 := Hst.out.low hbel
          have hlcb := ltOf hst1.hb
          obtain ⟨e1, e2, e3, e4, e0⟩ := box5 hst1.hb
          have Hbel := Lib.hid hbel
          have Hno := Lib.hid hno
          clear hbel hno hst1 e3 e0
          by_cases hlt : k < O.length
          · obtain ⟨a1', o1', ha1, hb1', d0, d1, d2⟩ := (H1.out.low Hbel.out hB).sy_at hlt
            injection ha1 with ha1
            injection ha1 with ha1 ha2 _
            subst ha1 ha2
            have hck := hc O[k]
            have hlk := Hlk.out (wr.alloc (Obj.cells #[.string O[k].1, .int .i64 O[k].2.1, .bool O[k].2.2] 31)) (Hbel.out.trans ((below_box wr _).mono hz2)) O[k]
            have hll := Hlt.out (wr.alloc (Obj.cells #[.string O[k].1, .int .i64 O[k].2.1, .bool O[k].2.2] 31)) (Hbel.out.trans ((below_box wr _).mono hz2)) O[k]
            have hsn : (O.take (k + 1)).any (trigs c th tol m) = trigs c th tol m O[k] := by
              rw [List.take_succ_eq_append_getElem hlt, List.any_append, Hno.out]; simp
            have Hsn := Lib.hid hsn
            clear hsn
            cases hth : th O[k] with
            | false =>
              have htf : trigs c th tol m O[k] = false := by unfold trigs; rw [hth]; rfl
              rw [hth] at hll
              have Htf := Lib.hid htf
              clear hth htf
              go_wp2_with fail
              go_quiet (fail)
              go_wp2_with fail
              go_roundw
              case rel => exact ⟨k + 1, by omega, by go_num, by rw [Hsn.out, Htf.out], drewN_low (Hbel.out.trans ((below_box wr _).mono hz2)) _⟩
              case measure => simp [intOf]; omega
            | true =>
              rw [hth] at hll
              have Hth := Lib.hid hth
              clear hth
              by_cases hcm : 10 * c O[k] ≤ tol * m
              · have hcm' : (10 : Int) * (c O[k] : Int) ≤ (tol : Int) * (m : Int) := by
                  rw [← Int.natCast_mul]; omega
                have hcd : decide ((10 : Int) * (c O[k] : Int) ≤ (tol : Int) * (m : Int)) = true := by simpa using hcm'
                have htf : trigs c th tol m O[k] = true := by unfold trigs; rw [Hth.out]; simp [hcm]
                have Htf := Lib.hid htf
                clear htf hcm
                go_wp2_with fail
                go_quiet (fail)
                go_wp2_with fail
                go_ret
                refine ⟨?_, drewN_low (Hbel.out.trans ((below_box wr _).mono hz2)) _⟩
                have hany : O.any (trigs c th tol m) = true := List.any_eq_true.2 ⟨O[k], List.getElem_mem hlt, Htf.out⟩
                rw [Htr.out, hany]
                rfl
              · have hcm' : ¬ (10 : Int) * (c O[k] : Int) ≤ (tol : Int) * (m : Int) := by
                  rw [← Int.natCast_mul]; omega
                have hcd : decide ((10 : Int) * (c O[k] : Int) ≤ (tol : Int) * (m : Int)) = false := by simpa using hcm'
                have htf : trigs c th tol m O[k] = false := by unfold trigs; rw [Hth.out]; simp [hcm]
                have Htf := Lib.hid htf
                clear htf hcm
                go_wp2_with fail
                go_quiet (fail)
                go_wp2_with fail
                go_roundw
                case rel => exact ⟨k + 1, by omega, by go_num, by rw [Hsn.out, Htf.out], drewN_low (Hbel.out.trans ((below_box wr _).mono hz2)) _⟩
                case measure => simp [intOf]; omega
          · have hany : O.any (trigs c th tol m) = false := by
              have := Hno.out
              rwa [List.take_of_length_le (by omega)] at this
            have Hany := Lib.hid hany
            clear hany
            go_wp2_with fail
            go_ret
            refine ⟨?_, Hbel.out⟩
            rw [Htr.out, Hany.out]
            rfl

end Go.Proofs.Ytikgjappablbhaa
