/-
  Symbols and numbers as keys of maps, over this program.
-/
import Derived.Test.YtikgjappablbhaaProg
import Derived.Test.YtikgjappablbhaaSyWalk
import Derived.Test.YtikgjappablbhaaMap
import Derived.Test.YtikgjappablbhaaSyms
namespace Go.Proofs.Ytikgjappablbhaa
open Go.RowKit

theorem ba_refl (a : ByteArray) : (a == a) = true := by rw [beq_toListBytes]; simp

/-- A symbol as a value. -/
def symV (s : Sy) : Value := .agg #[.string s.1, .int .i64 s.2.1, .bool s.2.2]

theorem equal_sy (w : World) (x y : Sy) : (Op.equal 31 (symV x) (symV y)).run Try.prog w = .ok (decide (x = y)) w := by
  have h := run_eq_sy x.1 y.1 x.2.1 y.2.1 x.2.2 y.2.2 w
  rw [sameB_iff] at h
  simp only [binOp, Sem.run_bind] at h
  unfold symV
  cases hr : (Op.equal 31 (.agg #[.string x.1, .int .i64 x.2.1, .bool x.2.2]) (.agg #[.string y.1, .int .i64 y.2.1, .bool y.2.2])).run Try.prog w with
  | ok b w1 => rw [hr] at h; simpa using h
  | halt b w1 => rw [hr] at h; simp [Result.andThen] at h

theorem check_sy (em : Bool) (w : World) (x : Sy) : (Instr.checkKey em 10000 31 (symV x)).run Try.prog w = .ok () w := by
  obtain ⟨n, hn⟩ : ∃ n, 10000 = n + 2 := ⟨9998, rfl⟩
  rw [hn]
  unfold symV
  rw [Instr.checkKey]
  have hs := MapKept.run_checkKey (P := Try.prog) (w := w) (kt := 9) (k := .string x.1) Try.underlying9 (by simp [MapKept.IsKey]) em n
  have hi := MapKept.run_checkKey (P := Try.prog) (w := w) (kt := 3) (k := .int .i64 x.2.1) Try.underlying3 (by simp [MapKept.IsKey]) em n
  have hb := MapKept.run_checkKey (P := Try.prog) (w := w) (kt := 4) (k := .bool x.2.2) Try.underlying4 (by simp [MapKept.IsKey]) em n
  simp [go_sem, run_underlying Try.underlying31, hs, hi, hb]

theorem symK : KeyTy Try.prog 31 symV := by
  refine keyTy_asking (d := .struct (Try.prog.fieldsOf 31)) (by kernel_rfl) ?_ equal_sy check_sy ?_
  · intro x y; rfl
  · intro x
    obtain ⟨n, hn⟩ : ∃ n, 10000 = n + 2 := ⟨9998, rfl⟩
    rw [hn]
    unfold symV
    rw [Instr.sameBits]
    simp [Instr.sameBits, ba_refl]

theorem intK : KeyTy Try.prog 3 (fun n : Nat => Value.int .i64 n) := by
  refine keyTy_now (d := .int .i64) (by kernel_rfl) ?_ ?_ ?_
  · intro x y
    simp only [Instr.sameNow, if_true, Option.some.injEq]
    by_cases h : x = y
    · subst h; simp
    · have : ¬ (x : Int) = y := by omega
      simp [h, this]
  · intro em w x
    exact MapKept.run_checkKey (P := Try.prog) (w := w) (kt := 3) (k := .int .i64 x) Try.underlying3 (by simp [MapKept.IsKey]) em 9999
  · intro x
    obtain ⟨n, hn⟩ : ∃ n, 10000 = n + 2 := ⟨9998, rfl⟩
    rw [hn]
    simp [Instr.sameBits]

end Go.Proofs.Ytikgjappablbhaa
