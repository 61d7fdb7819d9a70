/-
  Part 3 of the proof over the checker: walks and plain laws.
-/
import Derived.Shelf.Sort.Plain
import Derived.Shelf.Slices.Turned
import Derived.Shelf.Slices.CompactI
import Derived.Shelf.Slices.In.SortNone
import Derived.Shelf.SlSortCmp.Whole1
import Derived.Ground.Names2Prog
import Derived.Ground.SlsfProg
import Derived.Test.YtbkpkahhdlomiaaGreatProg
import Derived.Test.YtbkpkahhdlomiaaGreatMA
import Derived.Test.YtbkpkahhdlomiaaGreatMB
import Derived.RangeFuncNested
import Derived.RangeFuncBound
import Derived.RangeFuncCalls
import Derived.RangeFuncLeaves
import Derived.OwnWalkIn
import Derived.TacticsInMore
import Derived.LoopNIn
import Derived.LoopIn
set_option maxRecDepth 100000
set_option maxHeartbeats 8000000
set_option linter.unusedSimpArgs false
set_option linter.unusedVariables false
namespace Go.Proofs
open Go.Shelf
def Tryz.lays189_ren : Go.Shelf.Ren := ⟨fun | 189 => 105 | 125 => 32 | 257 => 107 | 128 => 65 | 129 => 66 | 294 => 108 | 295 => 109 | 296 => 110 | 297 => 111 | 298 => 112 | 299 => 113 | 216 => 114 | 300 => 115 | 301 => 116 | 328 => 117 | 329 => 83 | 330 => 84 | 331 => 118 | 332 => 119 | 215 => 67 | 343 => 120 | n => n, fun | 28 => 36 | 3 => 3 | 46 => 84 | 0 => 0 | 51 => 109 | 53 => 111 | 4 => 4 | 183 => 103 | 182 => 102 | 131 => 95 | 5 => 5 | 9 => 9 | 218 => 127 | 222 => 131 | 228 => 143 | 229 => 144 | n => n, fun | n => n⟩
theorem Tryz.lays189 : Go.Proofs.Lays.n189 Tryz.prog Tryz.lays189_ren := {
 mixed := by kernel_rfl
 f125 := Tryz.func32.trans (congrArg some (by kernel_rfl))
 f128 := Tryz.func65.trans (congrArg some (by kernel_rfl))
 f129 := Tryz.func66.trans (congrArg some (by kernel_rfl))
 f189 := Tryz.func105.trans (congrArg some (by kernel_rfl))
 f215 := Tryz.func67.trans (congrArg some (by kernel_rfl))
 f216 := Tryz.func114.trans (congrArg some (by kernel_rfl))
 f257 := Tryz.func107.trans (congrArg some (by kernel_rfl))
 f294 := Tryz.func108.trans (congrArg some (by kernel_rfl))
 f295 := Tryz.func109.trans (congrArg some (by kernel_rfl))
 f296 := Tryz.func110.trans (congrArg some (by kernel_rfl))
 f297 := Tryz.func111.trans (congrArg some (by kernel_rfl))
 f298 := Tryz.func112.trans (congrArg some (by kernel_rfl))
 f299 := Tryz.func113.trans (congrArg some (by kernel_rfl))
 f300 := Tryz.func115.trans (congrArg some (by kernel_rfl))
 f301 := Tryz.func116.trans (congrArg some (by kernel_rfl))
 f328 := Tryz.func117.trans (congrArg some (by kernel_rfl))
 f329 := Tryz.func83.trans (congrArg some (by kernel_rfl))
 f330 := Tryz.func84.trans (congrArg some (by kernel_rfl))
 f331 := Tryz.func118.trans (congrArg some (by kernel_rfl))
 f332 := Tryz.func119.trans (congrArg some (by kernel_rfl))
 f343 := Tryz.func120.trans (congrArg some (by kernel_rfl))
 t0 := Tryz.underlying0
 a0 := Tryz.isAgg0
 z0 := Tryz.sizeOf0
 v0 := Tryz.zeroValue0
 t3 := Tryz.underlying3
 a3 := Tryz.isAgg3
 z3 := Tryz.sizeOf3
 v3 := Tryz.zeroValue3
 t4 := Tryz.underlying4
 a4 := Tryz.isAgg4
 z4 := Tryz.sizeOf4
 v4 := Tryz.zeroValue4
 t5 := Tryz.underlying5
 a5 := Tryz.isAgg5
 z5 := Tryz.sizeOf5
 v5 := Tryz.zeroValue5
 t9 := Tryz.underlying9
 a9 := Tryz.isAgg9
 z9 := Tryz.sizeOf9
 v9 := Tryz.zeroValue9
 t28 := Tryz.underlying36
 a28 := Tryz.isAgg36
 z28 := Tryz.sizeOf36
 v28 := Tryz.zeroValue36
 t46 := Tryz.underlying84
 a46 := Tryz.isAgg84
 z46 := Tryz.sizeOf84
 v46 := Tryz.zeroValue84
 t51 := Tryz.underlying109
 a51 := Tryz.isAgg109
 z51 := Tryz.sizeOf109
 v51 := Tryz.zeroValue109
 t53 := Tryz.underlying111
 a53 := Tryz.isAgg111
 z53 := Tryz.sizeOf111
 v53 := Tryz.zeroValue111
 t131 := Tryz.underlying95
 a131 := Tryz.isAgg95
 z131 := Tryz.sizeOf95
 v131 := Tryz.zeroValue95
 t182 := Tryz.underlying102
 a182 := Tryz.isAgg102
 z182 := Tryz.sizeOf102
 v182 := Tryz.zeroValue102
 t183 := Tryz.underlying103
 a183 := Tryz.isAgg103
 z183 := Tryz.sizeOf103
 v183 := Tryz.zeroValue103
 t218 := Tryz.underlying127
 a218 := Tryz.isAgg127
 z218 := Tryz.sizeOf127
 v218 := Tryz.zeroValue127
 t222 := Tryz.underlying131
 a222 := Tryz.isAgg131
 z222 := Tryz.sizeOf131
 v222 := Tryz.zeroValue131
 t228 := Tryz.underlying143
 a228 := Tryz.isAgg143
 z228 := Tryz.sizeOf143
 v228 := Tryz.zeroValue143
 t229 := Tryz.underlying144
 a229 := Tryz.isAgg144
 z229 := Tryz.sizeOf144
 v229 := Tryz.zeroValue144 }
open Go.Sort Go.RowKit in
theorem Tryz.slices_Sort_int (blk off cap : Nat) (zs : List Int) (w : World) (hH : Holds (Value.int .i64) w blk off zs.toArray) (hblk : blk < w.heap.size) (hsz : zs.length < 4611686018427387904) :
 Calls Tryz.prog 105 #[.slice (some ⟨blk, off, none⟩) zs.length cap] w fun e w' =>
  e = .returned (.tuple #[]) ∧ ∃ n os, w' = grow (putRow (Value.int .i64) (Sort.ahead w n) blk off (zs.mergeSort fun x y => decide (x ≤ y)).toArray) os := Any.slices_Sort_int Tryz.lays189 blk off cap zs w hH hblk hsz
def Tryz.lays107_ren : Go.Shelf.Ren := ⟨fun | 107 => 99 | 108 => 103 | n => n, fun | 28 => 36 | 3 => 3 | 4 => 4 | 0 => 0 | n => n, fun | n => n⟩
theorem Tryz.lays107 : Go.Proofs.Lays.n107 Tryz.prog Tryz.lays107_ren := {
 mixed := by kernel_rfl
 f107 := Tryz.func99.trans (congrArg some (by kernel_rfl))
 f108 := Tryz.func103.trans (congrArg some (by kernel_rfl))
 t0 := Tryz.underlying0
 a0 := Tryz.isAgg0
 z0 := Tryz.sizeOf0
 v0 := Tryz.zeroValue0
 t3 := Tryz.underlying3
 a3 := Tryz.isAgg3
 z3 := Tryz.sizeOf3
 v3 := Tryz.zeroValue3
 t4 := Tryz.underlying4
 a4 := Tryz.isAgg4
 z4 := Tryz.sizeOf4
 v4 := Tryz.zeroValue4
 t28 := Tryz.underlying36
 a28 := Tryz.isAgg36
 z28 := Tryz.sizeOf36
 v28 := Tryz.zeroValue36 }
open Go.Lib in
theorem Tryz.slices_Contains_int (b off n c : Nat) (zs : List Int) (x : Int) (w : World) (hz : n ≤ zs.length) (hbig : n ≤ 9223372036854775807) (hc : ∀ j, j < zs.length → w.cell? ⟨b, off + j, none⟩ = some (.int .i64 (zs.getD j 0))) :
 Calls Tryz.prog 99 #[.slice (some ⟨b, off, none⟩) n c, .int .i64 x] w fun e w' => e = .returned (.bool ((zs.take n).contains x)) ∧ w' = w := Any.slices_Contains_int Tryz.lays107 b off n c zs x w hz hbig hc
open Go.Lib in
theorem Tryz.slices_Contains_int_empty (a : Option Addr) (c : Nat) (x : Int) (w : World) :
 Calls Tryz.prog 99 #[.slice a 0 c, .int .i64 x] w fun e w' => e = .returned (.bool false) ∧ w' = w := Any.slices_Contains_int_empty Tryz.lays107 a c x w
def Tryz.lays113_ren : Go.Shelf.Ren := ⟨fun | 113 => 40 | n => n, fun | 28 => 36 | 3 => 3 | 4 => 4 | 9 => 9 | 20 => 20 | 0 => 0 | n => n, fun | n => n⟩
theorem Tryz.lays113 : Go.Proofs.Lays.n113 Tryz.prog Tryz.lays113_ren := {
 mixed := by kernel_rfl
 f113 := Tryz.func40.trans (congrArg some (by kernel_rfl))
 t0 := Tryz.underlying0
 a0 := Tryz.isAgg0
 z0 := Tryz.sizeOf0
 v0 := Tryz.zeroValue0
 t3 := Tryz.underlying3
 a3 := Tryz.isAgg3
 z3 := Tryz.sizeOf3
 v3 := Tryz.zeroValue3
 t4 := Tryz.underlying4
 a4 := Tryz.isAgg4
 z4 := Tryz.sizeOf4
 v4 := Tryz.zeroValue4
 t9 := Tryz.underlying9
 a9 := Tryz.isAgg9
 z9 := Tryz.sizeOf9
 v9 := Tryz.zeroValue9
 t20 := Tryz.underlying20
 a20 := Tryz.isAgg20
 z20 := Tryz.sizeOf20
 v20 := Tryz.zeroValue20
 t28 := Tryz.underlying36
 a28 := Tryz.isAgg36
 z28 := Tryz.sizeOf36
 v28 := Tryz.zeroValue36 }
open Go.Lib in
theorem Tryz.slices_Max_int (b off n c : Nat) (zs : List Int) (w : World) (hn : 0 < n) (hz : n ≤ zs.length) (hbig : n ≤ 9223372036854775807) (hc : ∀ j, j < zs.length → w.cell? ⟨b, off + j, none⟩ = some (.int .i64 (zs.getD j 0))) :
 Calls Tryz.prog 40 #[.slice (some ⟨b, off, none⟩) n c] w fun e w' => e = .returned (.int .i64 (Lib.maxOf (zs.take n))) ∧ w' = w := Any.slices_Max_int Tryz.lays113 b off n c zs w hn hz hbig hc
def Tryz.laysNm220_ren : Go.Shelf.Ren := ⟨fun | 20 => 106 | n => n, fun | 22 => 36 | 3 => 3 | 4 => 4 | 0 => 0 | n => n, fun | n => n⟩
theorem Tryz.laysNm220 : Go.Proofs.Lays2.n20 Tryz.prog Tryz.laysNm220_ren := {
 mixed := by kernel_rfl
 f20 := Tryz.func106.trans (congrArg some (by kernel_rfl))
 t0 := Tryz.underlying0
 a0 := Tryz.isAgg0
 z0 := Tryz.sizeOf0
 v0 := Tryz.zeroValue0
 t3 := Tryz.underlying3
 a3 := Tryz.isAgg3
 z3 := Tryz.sizeOf3
 v3 := Tryz.zeroValue3
 t4 := Tryz.underlying4
 a4 := Tryz.isAgg4
 z4 := Tryz.sizeOf4
 v4 := Tryz.zeroValue4
 t22 := Tryz.underlying36
 a22 := Tryz.isAgg36
 z22 := Tryz.sizeOf36
 v22 := Tryz.zeroValue36
 i3 := by kernel_rfl }
open Go.RowKit Go.Lib Go.Sort in
theorem Tryz.slices_Compact_int (blk off cap : Nat) (zs : List Int) (w : World) (hH : Holds (Value.int .i64) w blk off zs.toArray) (hsz : zs.length ≤ 9223372036854775807) (hcap : zs.length ≤ cap) :
 Calls Tryz.prog 106 #[.slice (some ⟨blk, off, none⟩) zs.length cap] w fun e w' => e = .returned (.slice (some ⟨blk, off, none⟩) (Lib.compact zs).length cap) ∧ ∃ q, w' = putRow (Value.int .i64) (Sort.ahead w q) blk off (Lib.compact zs ++ List.replicate (zs.length - (Lib.compact zs).length) 0).toArray := Any.slices_Compact_int Tryz.laysNm220 blk off cap zs w hH hsz hcap
open Go.RowKit Go.Lib Go.Sort in
theorem Tryz.slices_Compact_int_empty (a : Option Addr) (cap : Nat) (w : World) :
 Calls Tryz.prog 106 #[.slice a 0 cap] w fun e w' => e = .returned (.slice a 0 cap) ∧ w' = w := Any.slices_Compact_int_empty Tryz.laysNm220 a cap w
open Go.RowKit Go.Sort in
theorem Tryz.slices_Sort_int_none (p : Option Addr) (cap : Nat) (w : World) :
 Calls Tryz.prog 105 #[.slice p 0 cap] w fun e w' => e = .returned (.tuple #[]) ∧ w' = w := Any.slices_Sort_int_none Tryz.lays189 p cap w
def Tryz.laysSlF6_f16_ren : Go.Shelf.Ren := ⟨fun | 6 => 16 | 15 => 32 | 14 => 31 | 28 => 65 | 29 => 66 | 20 => 57 | 21 => 58 | 22 => 59 | 23 => 60 | 24 => 61 | 25 => 62 | 26 => 63 | 27 => 64 | 46 => 82 | 47 => 83 | 48 => 84 | 49 => 85 | 50 => 86 | 57 => 98 | n => n, fun | 22 => 36 | 24 => 3 | 25 => 60 | 3 => 3 | 39 => 84 | 0 => 0 | 53 => 109 | 55 => 111 | 4 => 4 | 46 => 103 | 45 => 102 | 50 => 95 | 5 => 5 | 9 => 9 | 66 => 127 | 70 => 131 | 76 => 143 | 77 => 144 | n => n, fun | n => n⟩
theorem Tryz.laysSlF6_f16 : Go.Proofs.SlLaysF.n6 Tryz.prog Tryz.laysSlF6_f16_ren := {
 mixed := by kernel_rfl
 f6 := ⟨Tryz.f16.name, by decide, Tryz.func16.trans (congrArg some (by kernel_rfl))⟩
 f14 := ⟨Tryz.f31.name, by decide, Tryz.func31.trans (congrArg some (by kernel_rfl))⟩
 f15 := Tryz.func32.trans (congrArg some (by kernel_rfl))
 f20 := ⟨Tryz.f57.name, by decide, Tryz.func57.trans (congrArg some (by kernel_rfl))⟩
 f21 := ⟨Tryz.f58.name, by decide, Tryz.func58.trans (congrArg some (by kernel_rfl))⟩
 f22 := ⟨Tryz.f59.name, by decide, Tryz.func59.trans (congrArg some (by kernel_rfl))⟩
 f23 := ⟨Tryz.f60.name, by decide, Tryz.func60.trans (congrArg some (by kernel_rfl))⟩
 f24 := ⟨Tryz.f61.name, by decide, Tryz.func61.trans (congrArg some (by kernel_rfl))⟩
 f25 := ⟨Tryz.f62.name, by decide, Tryz.func62.trans (congrArg some (by kernel_rfl))⟩
 f26 := ⟨Tryz.f63.name, by decide, Tryz.func63.trans (congrArg some (by kernel_rfl))⟩
 f27 := ⟨Tryz.f64.name, by decide, Tryz.func64.trans (congrArg some (by kernel_rfl))⟩
 f28 := Tryz.func65.trans (congrArg some (by kernel_rfl))
 f29 := Tryz.func66.trans (congrArg some (by kernel_rfl))
 f46 := ⟨Tryz.f82.name, by decide, Tryz.func82.trans (congrArg some (by kernel_rfl))⟩
 f47 := Tryz.func83.trans (congrArg some (by kernel_rfl))
 f48 := Tryz.func84.trans (congrArg some (by kernel_rfl))
 f49 := ⟨Tryz.f85.name, by decide, Tryz.func85.trans (congrArg some (by kernel_rfl))⟩
 f50 := ⟨Tryz.f86.name, by decide, Tryz.func86.trans (congrArg some (by kernel_rfl))⟩
 f57 := ⟨Tryz.f98.name, by decide, Tryz.func98.trans (congrArg some (by kernel_rfl))⟩
 t0 := Tryz.underlying0
 a0 := Tryz.isAgg0
 z0 := Tryz.sizeOf0
 v0 := Tryz.zeroValue0
 t3 := Tryz.underlying3
 a3 := Tryz.isAgg3
 z3 := Tryz.sizeOf3
 v3 := Tryz.zeroValue3
 t4 := Tryz.underlying4
 a4 := Tryz.isAgg4
 z4 := Tryz.sizeOf4
 v4 := Tryz.zeroValue4
 t5 := Tryz.underlying5
 a5 := Tryz.isAgg5
 z5 := Tryz.sizeOf5
 v5 := Tryz.zeroValue5
 t9 := Tryz.underlying9
 a9 := Tryz.isAgg9
 z9 := Tryz.sizeOf9
 v9 := Tryz.zeroValue9
 t22 := Tryz.underlying36
 a22 := Tryz.isAgg36
 z22 := Tryz.sizeOf36
 v22 := Tryz.zeroValue36
 a24 := Tryz.isAgg3
 z24 := Tryz.sizeOf3
 t25 := Tryz.underlying60
 a25 := Tryz.isAgg60
 z25 := Tryz.sizeOf60
 v25 := Tryz.zeroValue60
 t39 := Tryz.underlying84
 a39 := Tryz.isAgg84
 z39 := Tryz.sizeOf84
 v39 := Tryz.zeroValue84
 t45 := Tryz.underlying102
 a45 := Tryz.isAgg102
 z45 := Tryz.sizeOf102
 v45 := Tryz.zeroValue102
 t46 := Tryz.underlying103
 a46 := Tryz.isAgg103
 z46 := Tryz.sizeOf103
 v46 := Tryz.zeroValue103
 t50 := Tryz.underlying95
 a50 := Tryz.isAgg95
 z50 := Tryz.sizeOf95
 v50 := Tryz.zeroValue95
 t53 := Tryz.underlying109
 a53 := Tryz.isAgg109
 z53 := Tryz.sizeOf109
 v53 := Tryz.zeroValue109
 t55 := Tryz.underlying111
 a55 := Tryz.isAgg111
 z55 := Tryz.sizeOf111
 v55 := Tryz.zeroValue111
 t66 := Tryz.underlying127
 a66 := Tryz.isAgg127
 z66 := Tryz.sizeOf127
 v66 := Tryz.zeroValue127
 t70 := Tryz.underlying131
 a70 := Tryz.isAgg131
 z70 := Tryz.sizeOf131
 v70 := Tryz.zeroValue131
 t76 := Tryz.underlying143
 a76 := Tryz.isAgg143
 z76 := Tryz.sizeOf143
 v76 := Tryz.zeroValue143
 t77 := Tryz.underlying144
 a77 := Tryz.isAgg144
 z77 := Tryz.sizeOf144
 v77 := Tryz.zeroValue144 }
open Go.RowKit Go.Lib Go.Sort in
open Go.RowKit Go.Lib Go.Sort in
theorem Tryz.slices_SortFunc {α : Type} [Inhabited α] (enc : α → Value) (h1 : OneCell enc) (cf : α → α → Int) (hO : SWO (ltOf cf)) (g : Nat) (cb : Array Value) (blk off cap : Nat) (d : Array α) (w : World) (eg : ∀ args w, (callFunc g args).run Tryz.prog w = .ok (.enter g args) w) (hcmp : CmpLays1 Tryz.prog g cb enc cf blk off d.size w) (hH : Holds enc w blk off d) (hblk : blk < w.heap.size) (hsz : d.size < 4611686018427387904) :
 Calls Tryz.prog 16 #[.slice (some ⟨blk, off, none⟩) d.size cap, .func (.func g) #[] cb] w fun e w' =>
  e = .returned (.tuple #[]) ∧ ∃ d' n os, PermIn 0 d.size d d' ∧ SortedIn (ltOf cf) 0 d.size d' ∧ w' = sortWorld enc w blk off n d' os := Any.slices_SortFunc Tryz.laysSlF6_f16 enc h1 cf hO g cb blk off cap d w eg hcmp hH hblk hsz
end Go.Proofs
namespace Go.Proofs.YtbkpkahhdlomiaaGreat
open Go.RowKit
mutual
def eaT {σ : Type} (p : σ → Tm → Bool × σ) : σ → Tm → Bool × σ
 | s, .mk f xs => if (p s (.mk f xs)).1 = true then eaTs p (p s (.mk f xs)).2 xs else (false, (p s (.mk f xs)).2)
def eaTs {σ : Type} (p : σ → Tm → Bool × σ) : σ → List Tm → Bool × σ
 | s, [] => (true, s)
 | s, x :: xs => if (eaT p s x).1 = true then eaTs p (eaT p s x).2 xs else (false, (eaT p s x).2)
end
theorem eaTs_cons {σ : Type} (p : σ → Tm → Bool × σ) (s : σ) (x : Tm) (xs : List Tm) : eaTs p s (x :: xs) = if (eaT p s x).1 = true then eaTs p (eaT p s x).2 xs else (false, (eaT p s x).2) := by rw [eaTs]
theorem eaTs_nil {σ : Type} (p : σ → Tm → Bool × σ) (s : σ) : eaTs p s [] = (true, s) := by rw [eaTs]
def TmAt (w : World) (B ab off : Nat) (t : Tm) : Prop := ab < B ∧ ∃ A c, w.cell? ⟨ab, off, none⟩ = some (.int .i64 t.fn) ∧ w.cell? ⟨ab, off + 1, none⟩ = some (.slice A t.args.length c) ∧ Rd w B (.sl 2 (encTms t.args)) (.slice A t.args.length c)
theorem TmAt.form {w : World} {B ab off : Nat} {f : Int} {xs : List Tm} (h : TmAt w B ab off (.mk f xs)) : ab < B ∧ ∃ A c, w.cell? ⟨ab, off, none⟩ = some (.int .i64 f) ∧ w.cell? ⟨ab, off + 1, none⟩ = some (.slice A xs.length c) ∧ Rd w B (.sl 2 (encTms xs)) (.slice A xs.length c) := h
structure RoomP {σ : Type} (p : σ → Tm → Bool × σ) (R : σ → Nat → Prop) : Prop where
 mono : ∀ s n m, m ≤ n → R s n → R s m
 step : ∀ s t n, R s (n + 1) → R (p s t).2 n
mutual
theorem RoomP.eaT {σ : Type} {p : σ → Tm → Bool × σ} {R : σ → Nat → Prop} (h : RoomP p R) : ∀ (t : Tm) (s : σ) (n : Nat), R s (sizeT t + n) → R (Go.Proofs.YtbkpkahhdlomiaaGreat.eaT p s t).2 n
 | .mk f xs, s, n, hr => by
   rw [Go.Proofs.YtbkpkahhdlomiaaGreat.eaT]
   rw [sizeT] at hr
   have h1 := h.step s (.mk f xs) (sizeTs xs + n) (h.mono s _ _ (by omega) hr)
   split
   · exact h.eaTs xs _ n h1
   exact h.mono _ _ _ (by omega) h1
theorem RoomP.eaTs {σ : Type} {p : σ → Tm → Bool × σ} {R : σ → Nat → Prop} (h : RoomP p R) : ∀ (xs : List Tm) (s : σ) (n : Nat), R s (sizeTs xs + n) → R (Go.Proofs.YtbkpkahhdlomiaaGreat.eaTs p s xs).2 n
 | [], s, n, hr => by rw [Go.Proofs.YtbkpkahhdlomiaaGreat.eaTs_nil]; exact h.mono _ _ _ (by omega) hr
 | x :: xs, s, n, hr => by
   rw [eaTs_cons]
   rw [sizeTs] at hr
   have h1 := h.eaT x s (sizeTs xs + n) (h.mono s _ _ (by omega) hr)
   split
   · exact h.eaTs xs _ n h1
   exact h.mono _ _ _ (by omega) h1
end
theorem varsEach_any {σ : Type} (B : Nat) (F : World → Nat → Prop) (I : σ → World → Prop) (hF : StF B F I) (bx : Array Value) (p : σ → Tm → Bool × σ) (Z : Tm → Prop) (hZ : ∀ f xs x, Z (.mk f xs) → x ∈ xs → Z x) (R : σ → Nat → Prop) (hR : RoomP p R) (W : Nat)
 (hclo : ∀ s w ab off (t : Tm), W ≤ w.heap.size → I s w → TmAt w B ab off t → Z t → R s 1 → Calls Tryz.prog 104 (#[.pointer (some ⟨ab, off, none⟩)] ++ bx) w (StB F I (p s t) w)) (D : Nat) :
 ∀ (s : σ) (f : Int) (xs : List Tm) (ab off : Nat) (w : World), sizeTs xs < D → W ≤ w.heap.size → B ≤ w.heap.size → I s w → TmAt w B ab off (.mk f xs) → Z (.mk f xs) → R s (sizeT (.mk f xs)) →
 Calls Tryz.prog 53 #[.pointer (some ⟨ab, off, none⟩), .func (.func 104) #[] bx] w (StB F I (eaT p s (.mk f xs)) w) := by
 induction D with
 | zero => intro s f xs ab off w h; omega
 | succ D ih =>
 intro s f xs ab off w hD hW hB hs hat hz hrm
 obtain ⟨hab, A, c, c0, c1, hrd⟩ := hat.form
 have hrm1 : R s (1 + sizeTs xs) := by rw [sizeT] at hrm; exact hR.mono s _ _ (by omega) hrm
 have hcl := hclo s w ab off (.mk f xs) hW hs hat hz (hR.mono s _ _ (by omega) hrm1)
 obtain ⟨⟨b, s1⟩, hp⟩ : ∃ r, p s (.mk f xs) = r := ⟨_, rfl⟩
 rw [hp] at hcl
 have hrm2 : R s1 (sizeTs xs) := by
  have := hR.step s (.mk f xs) (sizeTs xs) (hR.mono s _ _ (by omega) hrm1)
  rw [hp] at this
  exact this
 obtain ⟨r, hr⟩ : ∃ r, eaT p s (.mk f xs) = r := ⟨_, rfl⟩
 rw [hr]
 rw [eaT, hp] at hr
 have hnx := hrd.tm_form
 obtain ⟨_, _, hv, -, hn, -⟩ := hnx
 have Hcl := Lh hcl
 have HF := Lh hF
 have Hr := Lh hr
 have Hs := Lh hs
 have Hrd := Lh hrd
 have Hih := Lh ih
 have Hz := Lh hz
 have HZ := Lh hZ
 have Hrm := Lh hrm2
 have HR := Lh hR
 have C0 := Lh c0
 have C1 := Lh c1
 clear hcl hF hr hs hrd ih hz hZ hat hp hclo hv c0 c1 hrm hrm1 hrm2 hR
 go_enter Tryz.func53, Tryz.ntmps53
 go_wp2_with fail
 refine Hcl.out.mono ?_
 rintro e w1 ⟨rfl, hst1⟩
 have Hst1 := Lh hst1
 clear hst1
 cases b with
 | false =>
   go_wp2_with fail
   go_ret
   have hrf : r = (false, s1) := by rw [← Hr.out]; simp
   rw [hrf]
   exact ⟨rfl, Hst1.out⟩
 | true =>
   have hz1 := Hst1.out.upd.size
   have d1 := (World.cell?_of_block (a := ⟨ab, off + 1, none⟩) (Hst1.out.upd.block ab (by omega) (fun h => by have := HF.out.ge _ _ _ Hs.out h; omega))).trans C1.out
   go_wp2_with fail
   clear d1
   go_loopw [15] (fun i wr => ∃ (k : Nat) (s2 : σ), k ≤ xs.length ∧ i = .int .i64 k ∧ r = eaTs p s2 (xs.drop k) ∧ R s2 (sizeTs (xs.drop k)) ∧ Stp F I s2 w wr) (fun i _ => xs.length - (intOf i).toNat)
   case atStart => exact ⟨0, s1, Nat.zero_le _, rfl, by rw [← Hr.out]; simp, Hrm.out, Hst1.out⟩
   obtain ⟨k, s2, hk, rfl, hgo, hrk, hst⟩ := hrel
   have hzr := hst.upd.size
   have Hgo := Lh hgo
   have Hst := Lh hst
   clear hgo
   by_cases hlt : k < xs.length
   · have hlt2 : ¬ ((xs.length : Int) ≤ (k : Int)) := by omega
     have d1 := (World.cell?_of_block (a := ⟨ab, off + 1, none⟩) (hst.upd.block ab (by omega) (fun h => by have := HF.out.ge _ _ _ Hs.out h; omega))).trans C1.out
     obtain ⟨sb, so, f1, us, A2, c2, hA, hxk, hsb, k0, k1, hr1⟩ := (hst.rd HF.out Hs.out Hrd.out hB).tm_at hlt
     subst hA
     have hsz := sizeTs_mem hlt
     rw [hxk] at hsz
     simp only [sizeT] at hsz
     have hzx := HZ.out f xs _ Hz.out (List.getElem_mem hlt)
     rw [hxk] at hzx
     have hstep : r = if (eaT p s2 (.mk f1 us)).1 = true then eaTs p (eaT p s2 (.mk f1 us)).2 (xs.drop (k + 1)) else (false, (eaT p s2 (.mk f1 us)).2) := by
      rw [Hgo.out, List.drop_eq_getElem_cons hlt, hxk, eaTs_cons]
     have hsd : sizeTs (xs.drop k) = sizeT (.mk f1 us) + sizeTs (xs.drop (k + 1)) := by rw [List.drop_eq_getElem_cons hlt, hxk, sizeTs]
     rw [hsd] at hrk
     have hrn := HR.out.eaT (.mk f1 us) s2 _ hrk
     have hcl := Hih.out s2 f1 us sb (so + k * 2) wr (by omega) (by omega) (by omega) Hst.out.st ⟨hsb, A2, c2, k0, k1, hr1⟩ hzx (HR.out.mono s2 _ _ (by omega) hrk)
     obtain ⟨⟨b2, s3⟩, hp2⟩ : ∃ q, eaT p s2 (.mk f1 us) = q := ⟨_, rfl⟩
     rw [hp2] at hcl hstep hrn
     have Hrn := Lh hrn
     have Hcl2 := Lh hcl
     have Hstep := Lh hstep
     clear hcl hstep hp2 hxk k0 k1 hr1 hzx hst hrk hrn hsd
     go_wp2_with fail
     refine Hcl2.out.mono ?_
     rintro e w6 ⟨rfl, hst6⟩
     have Hst6 := Lh hst6
     clear hst6 d1
     cases b2 with
     | true =>
       go_wp2_with fail
       go_roundw
       case rel => exact ⟨k + 1, s3, by omega, by go_num, by rw [Hstep.out]; simp, Hrn.out, Hst.out.trans Hst6.out⟩
       case measure => simp [intOf]; omega
     | false =>
       go_wp2_with fail
       go_ret
       have hrf : r = (false, s3) := by rw [Hstep.out]; simp
       rw [hrf]
       exact ⟨rfl, Hst.out.trans Hst6.out⟩
   have hrt : r = (true, s2) := by rw [Hgo.out, List.drop_eq_nil_of_le (by omega), eaTs_nil]
   have Hrt := Lh hrt
   clear hrt hst
   go_wp2_with fail
   go_ret
   rw [Hrt.out]
   exact ⟨rfl, Hst.out⟩
theorem mem_compact (zs : List Int) (x : Int) : x ∈ Lib.compact zs ↔ x ∈ zs := by
 unfold Lib.compact Lib.compactUpTo
 rw [List.mem_map]
 constructor
 · rintro ⟨j, hj, rfl⟩
   have hj := List.mem_range.1 (List.mem_filter.1 hj).1
   rw [getElem!_pos zs.toArray j (by simpa using hj)]
   simp
 intro hx
 obtain ⟨j, hj, he, hmin⟩ : ∃ j, ∃ h : j < zs.length, zs[j] = x ∧ ∀ i (h : i < zs.length), i < j → zs[i] ≠ x := by
  have hex : ∃ j, ∃ h : j < zs.length, zs[j] = x := by
   obtain ⟨j, hj, he⟩ := List.mem_iff_getElem.1 hx
   exact ⟨j, hj, he⟩
  obtain ⟨j, ⟨hj, he⟩, hm⟩ := exists_least hex
  exact ⟨j, hj, he, fun i hi hij e => by have := hm i ⟨hi, e⟩; omega⟩
 refine ⟨j, List.mem_filter.2 ⟨List.mem_range.2 hj, ?_⟩, ?_⟩
 · unfold Lib.keeps
   by_cases h0 : j = 0
   · subst h0; simp
   have h1 := hmin (j - 1) (by omega) (by omega)
   rw [getElem!_pos zs.toArray j (by simpa using hj), getElem!_pos zs.toArray (j - 1) (by simp; omega)]
   rw [decide_eq_true_iff]
   right
   simp only [List.getElem_toArray]
   exact fun e => h1 (e.symm.trans he)
 rw [getElem!_pos zs.toArray j (by simpa using hj)]
 simpa using he
def VaI (lb : Nat) (l : List Int) (w : World) : Prop := ∃ v, Box1 lb 36 v w ∧ Own w (lb + 1) 3 1 v (icells l)
def VaF (lb : Nat) (w : World) (k : Nat) : Prop := k = lb ∨ ∃ v, Box1 lb 36 v w ∧ v.ownBlock = some k
theorem VaF.ok {B lb : Nat} (hB : B ≤ lb) : StF B (VaF lb) (VaI lb) where
 low s w w' h hb := by
  obtain ⟨v, h1, h2⟩ := h
  refine ⟨⟨v, h1.low hb, h2.low hb⟩, fun k hk => ?_⟩
  rcases hk with rfl | ⟨v', h1', h2'⟩
  · exact .inl rfl
  refine .inr ⟨v, h1, ?_⟩
  have e := (h1.low hb).symm.trans h1'
  injection e with e
  injection e with e _ _
  injection e with e
  injection e with e _
  rw [e]; exact h2'
 lt s w k h hk := by
  obtain ⟨v, h1, h2⟩ := h
  rcases hk with rfl | ⟨v', h1', h2'⟩
  · exact ltOf h1
  have e := h1.symm.trans h1'
  injection e with e
  injection e with e _ _
  injection e with e
  injection e with e _
  rw [← e] at h2'
  exact (h2.lt k h2').2
 ge s w k h hk := by
  obtain ⟨v, h1, h2⟩ := h
  rcases hk with rfl | ⟨v', h1', h2'⟩
  · exact hB
  have e := h1.symm.trans h1'
  injection e with e
  injection e with e _ _
  injection e with e
  injection e with e _
  rw [← e] at h2'
  have := (h2.lt k h2').1
  omega
def vaP (l : List Int) (t : Tm) : Bool × List Int := (true, if t.fn < 0 then l ++ [-1 - t.fn] else l)
mutual
theorem vaP_all : ∀ (t : Tm) (l : List Int), eaT vaP l t = (true, l ++ (vL t).map (fun f => -1 - f))
 | .mk f xs, l => by
   have e : vaP l (.mk f xs) = (true, if f < 0 then l ++ [-1 - f] else l) := rfl
   rw [eaT, vL, e]
   simp only [if_true]
   rw [vaPs_all xs]
   split <;> simp [List.append_assoc]
theorem vaPs_all : ∀ (xs : List Tm) (l : List Int), eaTs vaP l xs = (true, l ++ (vLs xs).map (fun f => -1 - f))
 | [], l => by rw [eaTs_nil, vLs]; simp
 | x :: xs, l => by
   rw [eaTs_cons, vaP_all x l, vLs]
   simp only [if_true]
   rw [vaPs_all xs]
   simp [List.append_assoc]
end
def VaR (l : List Int) (n : Nat) : Prop := l.length + n ≤ 1000000
theorem VaR.ok : RoomP vaP VaR where
 mono s n m h hr := by unfold VaR at *; omega
 step s t n hr := by
  unfold VaR vaP at *
  dsimp only
  split
  · rw [List.length_append, List.length_singleton]; omega
  omega
theorem vars1_any (B lb : Nat) (hBl : B ≤ lb) (l : List Int) (w : World) (ab off : Nat) (t : Tm) (hs : VaI lb l w) (hat : TmAt w B ab off t) (hz : -1000000000 ≤ t.fn) (hr : VaR l 1) :
 Calls Tryz.prog 104 (#[.pointer (some ⟨ab, off, none⟩)] ++ #[.pointer (some ⟨lb, 0, none⟩)]) w (StB (VaF lb) (VaI lb) (vaP l t) w) := by
 obtain ⟨f, xs⟩ := t
 obtain ⟨hab, A, c, c0, c1, hrd⟩ := hat.form
 obtain ⟨v, hbx, hown⟩ := hs
 have hlw := ltOf hbx
 have hz : -1000000000 ≤ f := hz
 unfold VaR at hr
 have hst0 : Stp (VaF lb) (VaI lb) l w w := Stp.refl ⟨v, hbx, hown⟩
 have Hst0 := Lh hst0
 have HBX := Lh hbx
 have HOWN := Lh hown
 have C0 := Lh c0
 clear hat hrd hst0 c1
 by_cases hf : f < 0
 · have hp : vaP l (.mk f xs) = (true, if f < 0 then l ++ [-1 - f] else l) := rfl
   rw [if_pos hf] at hp
   rw [hp]
   have l0 := hbx.cell
   obtain ⟨g, hg⟩ : ∃ g, -1 - f = g := ⟨_, rfl⟩
   have hgw : IntKind.i64.wrap (-1 - f) = g := by rw [← hg]; exact wr64 _ (by omega)
   rw [hg]
   have Hg := Lh hg
   clear hg hp hbx hown
   go_enter Tryz.func104, Tryz.ntmps104
   go_upto_region 2 with fail
   refine rg 9 (fun L w' => Upd w w' (VaF lb w) ∧ (L.getD 7 false = false → Below w.heap.size w w')) ?_
   intro wd hwd hbd
   refine ⟨?_, fun hS => ?_⟩
   · exact ⟨Upd.low (hwd ▸ hbd) _, fun _ => hwd ▸ hbd⟩
   refine tk 0 (v) hS ?_ (fun hS => ?_) (hins := fun L w => by simp only [flag_ne (l := L) (i := 0) (k := 7) (by decide)])
   · intro w' L hn hw
     have q0 := (HBX.out.low (hw.2 (hn.flag 7 (by kernel_rfl)))).cell
     simp [execOp, go_sem, q0]
   refine ta 1 (.pointer (some ⟨ab, off, none⟩)) hS (fun hS => ?_) (hins := fun L w => by simp only [flag_ne (l := L) (i := 1) (k := 7) (by decide)])
   refine ta 2 (.pointer (some ⟨ab, off, none⟩)) hS (fun hS => ?_) (hins := fun L w => by simp only [flag_ne (l := L) (i := 2) (k := 7) (by decide)])
   refine ta 3 (.pointer (some ⟨ab, off, none⟩)) hS (fun hS => ?_) (hins := fun L w => by simp only [flag_ne (l := L) (i := 3) (k := 7) (by decide)])
   refine tk 4 (.int .i64 f) hS ?_ (fun hS => ?_) (hins := fun L w => by simp only [flag_ne (l := L) (i := 4) (k := 7) (by decide)])
   · intro w' L hn hw
     have q0 := (World.cell?_of_block (a := ⟨ab, off, none⟩) (hw.1.block ab (by omega) (fun h => by have := (VaF.ok hBl).ge _ _ _ ⟨v, HBX.out, HOWN.out⟩ h; omega))).trans C0.out
     simp [execOp, go_sem, q0]
   refine tk 5 (.int .i64 g) hS ?_ (fun hS => ?_) (hins := fun L w => by simp only [flag_ne (l := L) (i := 5) (k := 7) (by decide)])
   · intros; simp [execOp, go_sem, hgw]
   refine so 6 ?_
   have hlowd := hS.2 rfl
   refine wp_value (v := .slice (some ⟨wd.heap.size, 0, none⟩) 1 1) (w' := wd.alloc (.cells #[.int .i64 g] 3)) (by simp [execOp, go_sem]) ?_
   have hg8 := heap_alloc_new wd (.cells #[.int .i64 g] 3)
   have hb8 := below_box wd (.cells #[.int .i64 g] 3)
   have hz8 : (wd.alloc (.cells #[.int .i64 g] 3)).heap.size = wd.heap.size + 1 := by simp
   generalize wd.alloc (.cells #[.int .i64 g] 3) = w8 at hg8 hb8 hz8 ⊢
   have hlow8 : Below w.heap.size w w8 := hlowd.trans (hb8.mono hlowd.size)
   refine gS ?_ fun hS => ?_
   · exact ⟨Upd.low hlow8 _, fun _ => hlow8⟩
   refine sl 7 ?_
   have hown8 := HOWN.out.low hlow8
   have hbx8 := HBX.out.low hlow8
   refine wpList_push w8 rfl (.tmp 9) (.tmp 15) _ rfl nsT (base := lb + 1) (v := v) (rows := icells l) (by simp [go_sem]) hown8 (g := wd.heap.size) (by simp [go_sem]) hg8 rfl (by intro y hy; simp at hy; rcases hy with rfl; rfl) (by rw [icells_len]; omega) (by rw [icells_len]; unfold maxLen; omega) (by have := hlow8.size; omega) ?_
   intro v' w9 hown' hup' hat'
   have hown' : Own w9 (lb + 1) 3 1 v' (icells (l ++ [g])) := by rw [icells_push]; exact hown'
   have hlb : v.ownBlock ≠ some lb := fun e => by have := (hown8.lt lb e).1; omega
   have hbx9 := hbx8.upd hup' hlb
   obtain ⟨av, cv, hv'⟩ := icells_form hown'
   refine gL ?_ fun hS => ?_
   · exact ⟨(Upd.low hlow8 (VaF lb w)).trans hup' (fun i hi => .inl (.inr ⟨v, HBX.out, hi⟩)), fun h => (by cases h)⟩
   refine so 8 ?_
   have q0 := hbx9.cell
   have q1 := hbx9.free
   have hset := hbx9.set v'
   rw [hv'] at hset ⊢
   refine wp_skip (w' := w9.setCell ⟨lb, 0, none⟩ (.slice av (l ++ [g]).length cv)) (by simp [execOp, go_sem, q0, q1]) ?_
   rw [← hv'] at hset ⊢
   have hu10 : Upd w9 (w9.setCell ⟨lb, 0, none⟩ v') (fun b => b = lb) := upd_set _
   have hown10 := hown'.upd hu10 (fun b hb e => by have := (hown'.lt b hb).1; omega)
   generalize w9.setCell ⟨lb, 0, none⟩ v' = w10 at hset hu10 hown10 ⊢
   refine gS ?_ fun hS => ?_
   · exact ⟨hS.1.trans hu10 (fun i hi => .inl (.inl hi)), fun h => (by cases h)⟩
   refine dn ?_
   have hfin : Stp (VaF lb) (VaI lb) (l ++ [g]) w w10 := ⟨⟨v', hset, hown10⟩, hS.1, fun k hk => by
    rcases hk with rfl | ⟨v2, h1, h2⟩
    · exact .inl (.inl rfl)
    have e := hset.symm.trans h1
    injection e with e
    injection e with e _ _
    injection e with e
    injection e with e _
    rw [← e] at h2
    rcases hat' with h | h
    · rw [h] at h2; exact .inl (.inr ⟨v, HBX.out, h2⟩)
    rw [h] at h2
    injection h2 with h2
    have := hlow8.size
    exact .inr (by omega)⟩
   have Hfin := Lh hfin
   clear hfin hset hu10 hown10 hown' hup' hat' hS hbx9 hlb hown8 hbx8 hg8 hb8 hz8 hlow8 hlowd hwd hbd q0 q1 hv'
   go_wp2_with fail
   go_ret
   exact ⟨rfl, Hfin.out⟩
 have hp : vaP l (.mk f xs) = (true, if f < 0 then l ++ [-1 - f] else l) := rfl
 rw [if_neg hf] at hp
 rw [hp]
 clear hp hbx hown
 go_enter Tryz.func104, Tryz.ntmps104
 go_wp2_with fail
 go_ret
 exact ⟨rfl, Hst0.out⟩
def SmR (nb : Nat) (w : World) (e : Ending) (w' : World) : Prop := ∃ (b : Bool) (c : Int), e = .returned (.bool b) ∧ Box1 nb 3 (.int .i64 c) w' ∧ Upd w w' (fun k => k = nb)
theorem small1_any (B nb vb cb : Nat) (hnb : B ≤ nb) (hvb : B ≤ vb) (hcb : B ≤ cb) (hnv : vb ≠ nb) (hnc : cb ≠ nb) (D : Nat) : ∀ (f : Int) (xs : List Tm) (ab off : Nat) (d c0 : Int) (w : World), sizeTs xs < D → B ≤ w.heap.size → TmAt w B ab off (.mk f xs) → Box1 nb 3 (.int .i64 c0) w → Box1 vb 3 (.int .i64 48) w →
 Box1 cb 126 (.func (.func 81) #[] #[.pointer (some ⟨nb, 0, none⟩), .pointer (some ⟨vb, 0, none⟩), .pointer (some ⟨cb, 0, none⟩)]) w →
 Calls Tryz.prog 81 #[.pointer (some ⟨ab, off, none⟩), .int .i64 d, .pointer (some ⟨nb, 0, none⟩), .pointer (some ⟨vb, 0, none⟩), .pointer (some ⟨cb, 0, none⟩)] w (SmR nb w) := by
 induction D with
 | zero => intro f xs ab off d c0 w h; omega
 | succ D ih =>
 intro f xs ab off d c0 w hD hB hat hn hv hc
 obtain ⟨hab, A, cx, k0, k1, hrd⟩ := hat.form
 have hnl := ltOf hn
 have hvl := ltOf hv
 have hcl := ltOf hc
 have q0 := hn.cell
 have hfr := hn.free
 have hset := hn.set (.int .i64 (IntKind.i64.wrap (c0 + 1)))
 have hus : Upd w (w.setCell ⟨nb, 0, none⟩ (.int .i64 (IntKind.i64.wrap (c0 + 1)))) (fun k => k = nb) := upd_set _
 obtain ⟨_, _, hv0, -, hxn, -⟩ := hrd.tm_form
 obtain ⟨c1, hc1⟩ : ∃ c1, IntKind.i64.wrap (c0 + 1) = c1 := ⟨_, rfl⟩
 rw [hc1] at hset hus
 have Hset := Lh hset
 have Hus := Lh hus
 have HV := Lh hv
 have HC := Lh hc
 have Hrd := Lh hrd
 have K0 := Lh k0
 have K1 := Lh k1
 have Hih := Lh ih
 clear hset hus hv hc hrd k0 k1 ih hat hn hv0
 go_enter Tryz.func81, Tryz.ntmps81
 go_upto_region 2 with fail
 have hset := Hset.out
 have hus := Hus.out
 clear Hset Hus
 generalize w.setCell ⟨nb, 0, none⟩ (.int .i64 c1) = w1 at hset hus ⊢
 have hz1 := hus.size
 have hnl1 : nb < w1.heap.size := by omega
 have hvl1 : vb < w1.heap.size := by omega
 have hcl1 : cb < w1.heap.size := by omega
 have hal1 : ab < w1.heap.size := by omega
 have HN1 := Lh hset
 have HU1 := Lh hus
 have N1 := Lh hset.cell
 have C01 := Lh ((World.cell?_of_block (a := ⟨ab, off, none⟩) (hus.block ab (by omega) (by omega))).trans K0.out)
 have C11 := Lh ((World.cell?_of_block (a := ⟨ab, off + 1, none⟩) (hus.block ab (by omega) (by omega))).trans K1.out)
 have hv1 := HV.out.upd hus hnv
 have hc1b := HC.out.upd hus hnc
 have V1 := Lh hv1.cell
 have HV1 := Lh hv1
 have HC1 := Lh hc1b
 clear hset hus hv1 hc1b q0 hfr hc1
 by_cases a1 : 300 < c1
 · refine bu 30 (fun w' => Below w1.heap.size w1 w') (fun wd hwd hbd => ?_) ?_
   · exact hwd ▸ hbd
   refine ru 0 (.int .i64 c1) (fun w' hw => ?_) ?_
   · have q0 := (hw.cell (p := ⟨nb, 0, none⟩) hnl1).trans N1.out
     simp [execOp, go_sem, q0]
   refine ru 1 (.bool true) (fun w' hw => ?_) ?_
   · simp [execOp, go_sem, a1]
   refine pu 2 (.bool true) ?_
   refine su 3 ?_
   refine su 4 ?_
   refine pu 5 (.bool true) ?_
   refine pu 6 (.bool true) ?_
   refine su 7 ?_
   refine su 8 ?_
   refine su 9 ?_
   refine su 10 ?_
   refine su 11 ?_
   refine su 12 ?_
   refine su 13 ?_
   refine su 14 ?_
   refine su 15 ?_
   refine su 16 ?_
   refine su 17 ?_
   refine su 18 ?_
   refine su 19 ?_
   refine su 20 ?_
   refine su 21 ?_
   refine su 22 ?_
   refine su 23 ?_
   refine su 24 ?_
   refine su 25 ?_
   refine su 26 ?_
   refine su 27 ?_
   refine su 28 ?_
   refine pu 29 (.bool true) ?_
   refine du (fun wz hS => ?_)
   have HSz := Lh hS
   clear hS
   go_wp2_with fail
   go_ret
   exact ⟨false, c1, rfl, HN1.out.low HSz.out, HU1.out.trans (Upd.low HSz.out (fun k => k = nb)) (fun _ e => .inl e)⟩
 have a1' : c1 ≤ 300 := by omega
 by_cases a2 : 30 < d
 · refine bu 30 (fun w' => Below w1.heap.size w1 w') (fun wd hwd hbd => ?_) ?_
   · exact hwd ▸ hbd
   refine ru 0 (.int .i64 c1) (fun w' hw => ?_) ?_
   · have q0 := (hw.cell (p := ⟨nb, 0, none⟩) hnl1).trans N1.out
     simp [execOp, go_sem, q0]
   refine ru 1 (.bool false) (fun w' hw => ?_) ?_
   · simp [execOp, go_sem, a1']
   refine pu 2 (.bool false) ?_
   refine pu 3 (.int .i64 d) ?_
   refine ru 4 (.bool true) (fun w' hw => ?_) ?_
   · simp [execOp, go_sem, a2]
   refine pu 5 (.bool true) ?_
   refine pu 6 (.bool true) ?_
   refine su 7 ?_
   refine su 8 ?_
   refine su 9 ?_
   refine su 10 ?_
   refine su 11 ?_
   refine su 12 ?_
   refine su 13 ?_
   refine su 14 ?_
   refine su 15 ?_
   refine su 16 ?_
   refine su 17 ?_
   refine su 18 ?_
   refine su 19 ?_
   refine su 20 ?_
   refine su 21 ?_
   refine su 22 ?_
   refine su 23 ?_
   refine su 24 ?_
   refine su 25 ?_
   refine su 26 ?_
   refine su 27 ?_
   refine su 28 ?_
   refine pu 29 (.bool true) ?_
   refine du (fun wz hS => ?_)
   have HSz := Lh hS
   clear hS
   go_wp2_with fail
   go_ret
   exact ⟨false, c1, rfl, HN1.out.low HSz.out, HU1.out.trans (Upd.low HSz.out (fun k => k = nb)) (fun _ e => .inl e)⟩
 have a2' : d ≤ 30 := by omega
 by_cases a3 : f < 0
 · by_cases a4 : f < -48
   · refine bu 30 (fun w' => Below w1.heap.size w1 w') (fun wd hwd hbd => ?_) ?_
     · exact hwd ▸ hbd
     refine ru 0 (.int .i64 c1) (fun w' hw => ?_) ?_
     · have q0 := (hw.cell (p := ⟨nb, 0, none⟩) hnl1).trans N1.out
       simp [execOp, go_sem, q0]
     refine ru 1 (.bool false) (fun w' hw => ?_) ?_
     · simp [execOp, go_sem, a1']
     refine pu 2 (.bool false) ?_
     refine pu 3 (.int .i64 d) ?_
     refine ru 4 (.bool false) (fun w' hw => ?_) ?_
     · simp [execOp, go_sem, a2']
     refine pu 5 (.bool false) ?_
     refine pu 6 (.bool false) ?_
     refine pu 7 (.pointer (some ⟨ab, off, none⟩)) ?_
     refine pu 8 (.pointer (some ⟨ab, off, none⟩)) ?_
     refine pu 9 (.pointer (some ⟨ab, off, none⟩)) ?_
     refine ru 10 (.int .i64 f) (fun w' hw => ?_) ?_
     · have q1 := (hw.cell (p := ⟨ab, off, none⟩) hal1).trans C01.out
       simp [execOp, go_sem, q1]
     refine ru 11 (.bool true) (fun w' hw => ?_) ?_
     · simp [execOp, go_sem, a3]
     refine pu 12 (.bool true) ?_
     refine pu 13 (.pointer (some ⟨ab, off, none⟩)) ?_
     refine pu 14 (.pointer (some ⟨ab, off, none⟩)) ?_
     refine pu 15 (.pointer (some ⟨ab, off, none⟩)) ?_
     refine ru 16 (.int .i64 f) (fun w' hw => ?_) ?_
     · have q1 := (hw.cell (p := ⟨ab, off, none⟩) hal1).trans C01.out
       simp [execOp, go_sem, q1]
     refine ru 17 (.int .i64 48) (fun w' hw => ?_) ?_
     · have q3 := (hw.cell (p := ⟨vb, 0, none⟩) hvl1).trans V1.out
       simp [execOp, go_sem, q3]
     refine pu 18 (.int .i64 (-48)) ?_
     refine ru 19 (.bool true) (fun w' hw => ?_) ?_
     · simp [execOp, go_sem, a4]
     refine pu 20 (.bool true) ?_
     refine su 21 ?_
     refine su 22 ?_
     refine su 23 ?_
     refine su 24 ?_
     refine su 25 ?_
     refine su 26 ?_
     refine pu 27 (.bool true) ?_
     refine pu 28 (.bool true) ?_
     refine pu 29 (.bool true) ?_
     refine du (fun wz hS => ?_)
     have HSz := Lh hS
     clear hS
     go_wp2_with fail
     go_ret
     exact ⟨false, c1, rfl, HN1.out.low HSz.out, HU1.out.trans (Upd.low HSz.out (fun k => k = nb)) (fun _ e => .inl e)⟩
   have a4' : -48 ≤ f := by omega
   by_cases a5 : 0 < xs.length
   · refine bu 30 (fun w' => Below w1.heap.size w1 w') (fun wd hwd hbd => ?_) ?_
     · exact hwd ▸ hbd
     refine ru 0 (.int .i64 c1) (fun w' hw => ?_) ?_
     · have q0 := (hw.cell (p := ⟨nb, 0, none⟩) hnl1).trans N1.out
       simp [execOp, go_sem, q0]
     refine ru 1 (.bool false) (fun w' hw => ?_) ?_
     · simp [execOp, go_sem, a1']
     refine pu 2 (.bool false) ?_
     refine pu 3 (.int .i64 d) ?_
     refine ru 4 (.bool false) (fun w' hw => ?_) ?_
     · simp [execOp, go_sem, a2']
     refine pu 5 (.bool false) ?_
     refine pu 6 (.bool false) ?_
     refine pu 7 (.pointer (some ⟨ab, off, none⟩)) ?_
     refine pu 8 (.pointer (some ⟨ab, off, none⟩)) ?_
     refine pu 9 (.pointer (some ⟨ab, off, none⟩)) ?_
     refine ru 10 (.int .i64 f) (fun w' hw => ?_) ?_
     · have q1 := (hw.cell (p := ⟨ab, off, none⟩) hal1).trans C01.out
       simp [execOp, go_sem, q1]
     refine ru 11 (.bool true) (fun w' hw => ?_) ?_
     · simp [execOp, go_sem, a3]
     refine pu 12 (.bool true) ?_
     refine pu 13 (.pointer (some ⟨ab, off, none⟩)) ?_
     refine pu 14 (.pointer (some ⟨ab, off, none⟩)) ?_
     refine pu 15 (.pointer (some ⟨ab, off, none⟩)) ?_
     refine ru 16 (.int .i64 f) (fun w' hw => ?_) ?_
     · have q1 := (hw.cell (p := ⟨ab, off, none⟩) hal1).trans C01.out
       simp [execOp, go_sem, q1]
     refine ru 17 (.int .i64 48) (fun w' hw => ?_) ?_
     · have q3 := (hw.cell (p := ⟨vb, 0, none⟩) hvl1).trans V1.out
       simp [execOp, go_sem, q3]
     refine pu 18 (.int .i64 (-48)) ?_
     refine ru 19 (.bool false) (fun w' hw => ?_) ?_
     · simp [execOp, go_sem, a4']
     refine pu 20 (.bool false) ?_
     refine pu 21 (.pointer (some ⟨ab, off, none⟩)) ?_
     refine pu 22 (.pointer (some ⟨ab, off, none⟩)) ?_
     refine pu 23 (.pointer (some ⟨ab, off + 1, none⟩)) ?_
     refine ru 24 (.slice A xs.length cx) (fun w' hw => ?_) ?_
     · have q2 := (hw.cell (p := ⟨ab, off + 1, none⟩) hal1).trans C11.out
       simp [execOp, go_sem, q2]
     refine pu 25 (.int .i64 (xs.length : Nat)) ?_
     refine ru 26 (.bool true) (fun w' hw => ?_) ?_
     · simp [execOp, go_sem, a5]
     refine pu 27 (.bool true) ?_
     refine pu 28 (.bool true) ?_
     refine pu 29 (.bool true) ?_
     refine du (fun wz hS => ?_)
     have HSz := Lh hS
     clear hS
     go_wp2_with fail
     go_ret
     exact ⟨false, c1, rfl, HN1.out.low HSz.out, HU1.out.trans (Upd.low HSz.out (fun k => k = nb)) (fun _ e => .inl e)⟩
   have a5' : xs = [] := List.eq_nil_of_length_eq_zero (by omega)
   have Ha5 := Lh a5
   clear a5
   refine bu 30 (fun w' => Below w1.heap.size w1 w') (fun wd hwd hbd => ?_) ?_
   · exact hwd ▸ hbd
   refine ru 0 (.int .i64 c1) (fun w' hw => ?_) ?_
   · have q0 := (hw.cell (p := ⟨nb, 0, none⟩) hnl1).trans N1.out
     simp [execOp, go_sem, q0]
   refine ru 1 (.bool false) (fun w' hw => ?_) ?_
   · simp [execOp, go_sem, a1']
   refine pu 2 (.bool false) ?_
   refine pu 3 (.int .i64 d) ?_
   refine ru 4 (.bool false) (fun w' hw => ?_) ?_
   · simp [execOp, go_sem, a2']
   refine pu 5 (.bool false) ?_
   refine pu 6 (.bool false) ?_
   refine pu 7 (.pointer (some ⟨ab, off, none⟩)) ?_
   refine pu 8 (.pointer (some ⟨ab, off, none⟩)) ?_
   refine pu 9 (.pointer (some ⟨ab, off, none⟩)) ?_
   refine ru 10 (.int .i64 f) (fun w' hw => ?_) ?_
   · have q1 := (hw.cell (p := ⟨ab, off, none⟩) hal1).trans C01.out
     simp [execOp, go_sem, q1]
   refine ru 11 (.bool true) (fun w' hw => ?_) ?_
   · simp [execOp, go_sem, a3]
   refine pu 12 (.bool true) ?_
   refine pu 13 (.pointer (some ⟨ab, off, none⟩)) ?_
   refine pu 14 (.pointer (some ⟨ab, off, none⟩)) ?_
   refine pu 15 (.pointer (some ⟨ab, off, none⟩)) ?_
   refine ru 16 (.int .i64 f) (fun w' hw => ?_) ?_
   · have q1 := (hw.cell (p := ⟨ab, off, none⟩) hal1).trans C01.out
     simp [execOp, go_sem, q1]
   refine ru 17 (.int .i64 48) (fun w' hw => ?_) ?_
   · have q3 := (hw.cell (p := ⟨vb, 0, none⟩) hvl1).trans V1.out
     simp [execOp, go_sem, q3]
   refine pu 18 (.int .i64 (-48)) ?_
   refine ru 19 (.bool false) (fun w' hw => ?_) ?_
   · simp [execOp, go_sem, a4']
   refine pu 20 (.bool false) ?_
   refine pu 21 (.pointer (some ⟨ab, off, none⟩)) ?_
   refine pu 22 (.pointer (some ⟨ab, off, none⟩)) ?_
   refine pu 23 (.pointer (some ⟨ab, off + 1, none⟩)) ?_
   refine ru 24 (.slice A xs.length cx) (fun w' hw => ?_) ?_
   · have q2 := (hw.cell (p := ⟨ab, off + 1, none⟩) hal1).trans C11.out
     simp [execOp, go_sem, q2]
   refine pu 25 (.int .i64 (xs.length : Nat)) ?_
   refine ru 26 (.bool false) (fun w' hw => ?_) ?_
   · simp [execOp, go_sem, a5']
   refine pu 27 (.bool false) ?_
   refine pu 28 (.bool false) ?_
   refine pu 29 (.bool false) ?_
   refine du (fun wz hS => ?_)
   have HSz := Lh hS
   clear hS
   clear a5'
   have hUz : Upd w wz (fun k => k = nb) := HU1.out.trans (Upd.low HSz.out (fun k => k = nb)) (fun _ e => .inl e)
   have hNz := HN1.out.low HSz.out
   have d1 : wz.cell? ⟨ab, off + 1, none⟩ = some (.slice A xs.length cx) := (HSz.out.cell (p := ⟨ab, off + 1, none⟩) hal1).trans C11.out
   have HUz := Lh hUz
   have HNz := Lh hNz
   clear hUz hNz
   go_wp2_with fail
   clear d1
   go_loopw [46] (fun i wr => ∃ (k : Nat) (c : Int), k ≤ xs.length ∧ i = .int .i64 k ∧ Box1 nb 3 (.int .i64 c) wr ∧ Upd w wr (fun k => k = nb)) (fun i _ => xs.length - (intOf i).toNat)
   case atStart => exact ⟨0, c1, Nat.zero_le _, rfl, HNz.out, HUz.out⟩
   obtain ⟨k, c, hk, rfl, hbx, hur⟩ := hrel
   have hzr := hur.size
   have Hbx := Lh hbx
   have Hur := Lh hur
   clear hbx
   by_cases hlt : k < xs.length
   · have hlt2 : ¬ ((xs.length : Int) ≤ (k : Int)) := by omega
     obtain ⟨sb, sq, f1, us, A2, c2, hA, hxk, hsb, -, -, -⟩ := Hrd.out.tm_at hlt
     subst hA
     have hsz := sizeTs_mem hlt
     rw [hxk] at hsz
     simp only [sizeT] at hsz
     have hcc : ∀ w', Upd wr w' (fun k => k = nb) → ∀ c', Box1 nb 3 (.int .i64 c') w' → ∀ d', Calls Tryz.prog 81 #[.pointer (some ⟨sb, sq + k * 2, none⟩), .int .i64 d', .pointer (some ⟨nb, 0, none⟩), .pointer (some ⟨vb, 0, none⟩), .pointer (some ⟨cb, 0, none⟩)] w' (SmR nb w') := by
      intro w' hu' c' hb' d'
      have hu2 : Upd w w' (fun k => k = nb) := Hur.out.trans hu' (fun _ e => .inl e)
      have hrd2 : Rd w' B (.sl 2 (encTms xs)) (.slice (some ⟨sb, sq, none⟩) xs.length cx) := ((Hrd.out.rdP hB).upd hu2 (fun b hb _ e => by omega)).rd (fun b hb _ => hb)
      obtain ⟨sb', sq', f1', us', A2', c2', hA', hxk', hsb', k0', k1', hr1'⟩ := hrd2.tm_at hlt
      injection hA' with hA'
      injection hA' with e1 e2 _
      subst e1 e2
      rw [hxk] at hxk'
      injection hxk' with e1 e2
      subst e1 e2
      exact Hih.out f1 us sb (sq + k * 2) d' c' w' (by omega) (by have := hu2.size; omega) ⟨hsb', A2', c2', k0', k1', hr1'⟩ hb' (HV.out.upd hu2 hnv) (HC.out.upd hu2 hnc)
     have Hcc := Lh hcc
     have J1 := Lh (keepC hur (show ab ≠ nb by omega) (show ab < w.heap.size by omega) K1.out)
     have JC := Lh (HC.out.upd hur hnc).cell
     have har : ab < wr.heap.size := by omega
     have hcr : cb < wr.heap.size := by omega
     clear hcc hsz hur
     go_upto_region 7 with fail
     refine rg 11 (fun _ w' => Upd wr w' (fun k => k = nb) ∧ ∃ c, Box1 nb 3 (.int .i64 c) w') ?_
     intro wd hwd hbd
     refine ⟨?_, fun hS => ?_⟩
     · exact ⟨Upd.low (hwd ▸ hbd) _, c, Hbx.out.low (hwd ▸ hbd)⟩
     refine tk 0 (.func (.func 81) #[] #[.pointer (some ⟨nb, 0, none⟩), .pointer (some ⟨vb, 0, none⟩), .pointer (some ⟨cb, 0, none⟩)]) hS ?_ fun hS => ?_
     · intro w' L hn hw
       have q0 := keepC hw.1 hnc hcr JC.out
       simp [execOp, go_sem, q0]
     refine ta 1 (.pointer (some ⟨ab, off, none⟩)) hS fun hS => ?_
     refine ta 2 (.pointer (some ⟨ab, off, none⟩)) hS fun hS => ?_
     refine ta 3 (.pointer (some ⟨ab, off + 1, none⟩)) hS fun hS => ?_
     refine tk 4 (.slice (some ⟨sb, sq, none⟩) xs.length cx) hS ?_ fun hS => ?_
     · intro w' L hn hw
       have q1 := keepC hw.1 (show ab ≠ nb by omega) har J1.out
       simp [execOp, go_sem, q1]
     refine ta 5 (.int .i64 (k : Nat)) hS fun hS => ?_
     refine tk 6 (.pointer (some ⟨sb, sq + k * 2, none⟩)) hS ?_ fun hS => ?_
     · intros; simp [execOp, go_sem, hlt, hlt2]
     refine ta 7 (.int .i64 d) hS fun hS => ?_
     refine ta 8 (.int .i64 (IntKind.i64.wrap (d + 1))) hS fun hS => ?_
     refine so 9 ?_
     obtain ⟨c', hc'⟩ := hS.2
     refine wp_enter (by simp [execOp, resolve, invoke, go_sem]) (Hcc.out _ hS.1 c' hc' (IntKind.i64.wrap (d + 1))) ?_
     rintro e w7 ⟨b, c7, rfl, hb7, hu7⟩
     refine ⟨_, rfl, ?_⟩
     refine gS ?_ fun hS => ?_
     · exact ⟨hS.1.trans hu7 (fun _ e => .inl e), c7, hb7⟩
     refine ta 10 (.bool (!b)) hS fun hS => ?_
     refine dn ?_
     have HS7 := Lh hS
     clear hS hwd hbd hc' hb7 hu7
     cases b with
     | true =>
       go_wp2_with fail
       go_roundw
       case rel =>
        obtain ⟨c9, h9⟩ := HS7.out.2
        exact ⟨k + 1, c9, by omega, by go_num, h9, Hur.out.trans HS7.out.1 (fun _ e => .inl e)⟩
       case measure => simp [intOf]; omega
     | false =>
       go_wp2_with fail
       go_ret
       obtain ⟨c9, h9⟩ := HS7.out.2
       exact ⟨false, c9, rfl, h9, Hur.out.trans HS7.out.1 (fun _ e => .inl e)⟩
   go_wp2_with fail
   go_ret
   exact ⟨true, c, rfl, Hbx.out, Hur.out⟩
 have a3' : 0 ≤ f := by omega
 refine bu 30 (fun w' => Below w1.heap.size w1 w') (fun wd hwd hbd => ?_) ?_
 · exact hwd ▸ hbd
 refine ru 0 (.int .i64 c1) (fun w' hw => ?_) ?_
 · have q0 := (hw.cell (p := ⟨nb, 0, none⟩) hnl1).trans N1.out
   simp [execOp, go_sem, q0]
 refine ru 1 (.bool false) (fun w' hw => ?_) ?_
 · simp [execOp, go_sem, a1']
 refine pu 2 (.bool false) ?_
 refine pu 3 (.int .i64 d) ?_
 refine ru 4 (.bool false) (fun w' hw => ?_) ?_
 · simp [execOp, go_sem, a2']
 refine pu 5 (.bool false) ?_
 refine pu 6 (.bool false) ?_
 refine pu 7 (.pointer (some ⟨ab, off, none⟩)) ?_
 refine pu 8 (.pointer (some ⟨ab, off, none⟩)) ?_
 refine pu 9 (.pointer (some ⟨ab, off, none⟩)) ?_
 refine ru 10 (.int .i64 f) (fun w' hw => ?_) ?_
 · have q1 := (hw.cell (p := ⟨ab, off, none⟩) hal1).trans C01.out
   simp [execOp, go_sem, q1]
 refine ru 11 (.bool false) (fun w' hw => ?_) ?_
 · simp [execOp, go_sem, a3']
 refine pu 12 (.bool false) ?_
 refine su 13 ?_
 refine su 14 ?_
 refine su 15 ?_
 refine su 16 ?_
 refine su 17 ?_
 refine su 18 ?_
 refine su 19 ?_
 refine su 20 ?_
 refine su 21 ?_
 refine su 22 ?_
 refine su 23 ?_
 refine su 24 ?_
 refine su 25 ?_
 refine su 26 ?_
 refine su 27 ?_
 refine pu 28 (.bool false) ?_
 refine pu 29 (.bool false) ?_
 refine du (fun wz hS => ?_)
 have HSz := Lh hS
 clear hS
 have hUz : Upd w wz (fun k => k = nb) := HU1.out.trans (Upd.low HSz.out (fun k => k = nb)) (fun _ e => .inl e)
 have hNz := HN1.out.low HSz.out
 have d1 : wz.cell? ⟨ab, off + 1, none⟩ = some (.slice A xs.length cx) := (HSz.out.cell (p := ⟨ab, off + 1, none⟩) hal1).trans C11.out
 have HUz := Lh hUz
 have HNz := Lh hNz
 clear hUz hNz
 go_wp2_with fail
 clear d1
 go_loopw [46] (fun i wr => ∃ (k : Nat) (c : Int), k ≤ xs.length ∧ i = .int .i64 k ∧ Box1 nb 3 (.int .i64 c) wr ∧ Upd w wr (fun k => k = nb)) (fun i _ => xs.length - (intOf i).toNat)
 case atStart => exact ⟨0, c1, Nat.zero_le _, rfl, HNz.out, HUz.out⟩
 obtain ⟨k, c, hk, rfl, hbx, hur⟩ := hrel
 have hzr := hur.size
 have Hbx := Lh hbx
 have Hur := Lh hur
 clear hbx
 by_cases hlt : k < xs.length
 · have hlt2 : ¬ ((xs.length : Int) ≤ (k : Int)) := by omega
   obtain ⟨sb, sq, f1, us, A2, c2, hA, hxk, hsb, -, -, -⟩ := Hrd.out.tm_at hlt
   subst hA
   have hsz := sizeTs_mem hlt
   rw [hxk] at hsz
   simp only [sizeT] at hsz
   have hcc : ∀ w', Upd wr w' (fun k => k = nb) → ∀ c', Box1 nb 3 (.int .i64 c') w' → ∀ d', Calls Tryz.prog 81 #[.pointer (some ⟨sb, sq + k * 2, none⟩), .int .i64 d', .pointer (some ⟨nb, 0, none⟩), .pointer (some ⟨vb, 0, none⟩), .pointer (some ⟨cb, 0, none⟩)] w' (SmR nb w') := by
    intro w' hu' c' hb' d'
    have hu2 : Upd w w' (fun k => k = nb) := Hur.out.trans hu' (fun _ e => .inl e)
    have hrd2 : Rd w' B (.sl 2 (encTms xs)) (.slice (some ⟨sb, sq, none⟩) xs.length cx) := ((Hrd.out.rdP hB).upd hu2 (fun b hb _ e => by omega)).rd (fun b hb _ => hb)
    obtain ⟨sb', sq', f1', us', A2', c2', hA', hxk', hsb', k0', k1', hr1'⟩ := hrd2.tm_at hlt
    injection hA' with hA'
    injection hA' with e1 e2 _
    subst e1 e2
    rw [hxk] at hxk'
    injection hxk' with e1 e2
    subst e1 e2
    exact Hih.out f1 us sb (sq + k * 2) d' c' w' (by omega) (by have := hu2.size; omega) ⟨hsb', A2', c2', k0', k1', hr1'⟩ hb' (HV.out.upd hu2 hnv) (HC.out.upd hu2 hnc)
   have Hcc := Lh hcc
   have J1 := Lh (keepC hur (show ab ≠ nb by omega) (show ab < w.heap.size by omega) K1.out)
   have JC := Lh (HC.out.upd hur hnc).cell
   have har : ab < wr.heap.size := by omega
   have hcr : cb < wr.heap.size := by omega
   clear hcc hsz hur
   go_upto_region 7 with fail
   refine rg 11 (fun _ w' => Upd wr w' (fun k => k = nb) ∧ ∃ c, Box1 nb 3 (.int .i64 c) w') ?_
   intro wd hwd hbd
   refine ⟨?_, fun hS => ?_⟩
   · exact ⟨Upd.low (hwd ▸ hbd) _, c, Hbx.out.low (hwd ▸ hbd)⟩
   refine tk 0 (.func (.func 81) #[] #[.pointer (some ⟨nb, 0, none⟩), .pointer (some ⟨vb, 0, none⟩), .pointer (some ⟨cb, 0, none⟩)]) hS ?_ fun hS => ?_
   · intro w' L hn hw
     have q0 := keepC hw.1 hnc hcr JC.out
     simp [execOp, go_sem, q0]
   refine ta 1 (.pointer (some ⟨ab, off, none⟩)) hS fun hS => ?_
   refine ta 2 (.pointer (some ⟨ab, off, none⟩)) hS fun hS => ?_
   refine ta 3 (.pointer (some ⟨ab, off + 1, none⟩)) hS fun hS => ?_
   refine tk 4 (.slice (some ⟨sb, sq, none⟩) xs.length cx) hS ?_ fun hS => ?_
   · intro w' L hn hw
     have q1 := keepC hw.1 (show ab ≠ nb by omega) har J1.out
     simp [execOp, go_sem, q1]
   refine ta 5 (.int .i64 (k : Nat)) hS fun hS => ?_
   refine tk 6 (.pointer (some ⟨sb, sq + k * 2, none⟩)) hS ?_ fun hS => ?_
   · intros; simp [execOp, go_sem, hlt, hlt2]
   refine ta 7 (.int .i64 d) hS fun hS => ?_
   refine ta 8 (.int .i64 (IntKind.i64.wrap (d + 1))) hS fun hS => ?_
   refine so 9 ?_
   obtain ⟨c', hc'⟩ := hS.2
   refine wp_enter (by simp [execOp, resolve, invoke, go_sem]) (Hcc.out _ hS.1 c' hc' (IntKind.i64.wrap (d + 1))) ?_
   rintro e w7 ⟨b, c7, rfl, hb7, hu7⟩
   refine ⟨_, rfl, ?_⟩
   refine gS ?_ fun hS => ?_
   · exact ⟨hS.1.trans hu7 (fun _ e => .inl e), c7, hb7⟩
   refine ta 10 (.bool (!b)) hS fun hS => ?_
   refine dn ?_
   have HS7 := Lh hS
   clear hS hwd hbd hc' hb7 hu7
   cases b with
   | true =>
     go_wp2_with fail
     go_roundw
     case rel =>
      obtain ⟨c9, h9⟩ := HS7.out.2
      exact ⟨k + 1, c9, by omega, by go_num, h9, Hur.out.trans HS7.out.1 (fun _ e => .inl e)⟩
     case measure => simp [intOf]; omega
   | false =>
     go_wp2_with fail
     go_ret
     obtain ⟨c9, h9⟩ := HS7.out.2
     exact ⟨false, c9, rfl, h9, Hur.out.trans HS7.out.1 (fun _ e => .inl e)⟩
 go_wp2_with fail
 go_ret
 exact ⟨true, c, rfl, Hbx.out, Hur.out⟩
theorem boxes4 (w : World) (o1 o2 o3 o4 : Obj) : ((((w.alloc o1).alloc o2).alloc o3).alloc o4).heap[w.heap.size]? = some o1 ∧ ((((w.alloc o1).alloc o2).alloc o3).alloc o4).heap[w.heap.size + 1]? = some o2 ∧ ((((w.alloc o1).alloc o2).alloc o3).alloc o4).heap[w.heap.size + 1 + 1]? = some o3 ∧
 ((((w.alloc o1).alloc o2).alloc o3).alloc o4).heap[w.heap.size + 1 + 1 + 1]? = some o4 ∧ Below w.heap.size w ((((w.alloc o1).alloc o2).alloc o3).alloc o4) ∧ ((((w.alloc o1).alloc o2).alloc o3).alloc o4).heap.size = w.heap.size + 4 := by
 obtain ⟨h1, h2, h3, h4, h5⟩ := boxes3 w o1 o2 o3
 refine ⟨?_, ?_, ?_, ?_, h4.trans ((below_box _ o4).mono h4.size), by simp⟩
 · rw [alloc_get, if_neg (by omega)]; exact h1
 · rw [alloc_get, if_neg (by omega)]; exact h2
 · rw [alloc_get, if_neg (by omega)]; exact h3
 rw [alloc_get, if_pos (by omega)]
def SomeB (w : World) (e : Ending) (w' : World) : Prop := ∃ b : Bool, e = .returned (.bool b) ∧ Below w.heap.size w w'
theorem small28_any (f : Int) (xs : List Tm) (v2 : Value) (B : Nat) (w : World) (hr : Rd w B (.sl 2 (encTms xs)) v2) (hB : B ≤ w.heap.size) : Calls Tryz.prog 52 #[.agg #[.int .i64 f, v2], .int .i64 48] w (SomeB w) := by
 obtain ⟨A, c, rfl, -, hn, -⟩ := hr.tm_form
 have HR := Lh hr
 clear hr
 go_enter Tryz.func52, Tryz.ntmps52
 go_upto_region 4 with fail
 obtain ⟨h1, h2, h3, h4, hB4, hz4⟩ := boxes4 w (.cells #[.int .i64 f, .slice A xs.length c] 32) (.cells #[.int .i64 48] 3) (.cells #[.int .i64 0] 3) (.cells #[.func (.func 81) #[] #[.pointer (some ⟨w.heap.size + 1 + 1, 0, none⟩), .pointer (some ⟨w.heap.size + 1, 0, none⟩), .pointer (some ⟨w.heap.size + 1 + 1 + 1, 0, none⟩)]] 126)
 generalize ((((w.alloc (.cells #[.int .i64 f, .slice A xs.length c] 32)).alloc (.cells #[.int .i64 48] 3)).alloc (.cells #[.int .i64 0] 3)).alloc (.cells #[.func (.func 81) #[] #[.pointer (some ⟨w.heap.size + 1 + 1, 0, none⟩), .pointer (some ⟨w.heap.size + 1, 0, none⟩), .pointer (some ⟨w.heap.size + 1 + 1 + 1, 0, none⟩)]] 126)) = w4 at h1 h2 h3 h4 hB4 hz4 ⊢
 have h1 : Box2 w.heap.size 32 (.int .i64 f) (.slice A xs.length c) w4 := h1
 have h2 : Box1 (w.heap.size + 1) 3 (.int .i64 48) w4 := h2
 have h3 : Box1 (w.heap.size + 1 + 1) 3 (.int .i64 0) w4 := h3
 have h4 : Box1 (w.heap.size + 1 + 1 + 1) 126 (.func (.func 81) #[] #[.pointer (some ⟨w.heap.size + 1 + 1, 0, none⟩), .pointer (some ⟨w.heap.size + 1, 0, none⟩), .pointer (some ⟨w.heap.size + 1 + 1 + 1, 0, none⟩)]) w4 := h4
 obtain ⟨k0, k1, -⟩ := h1.cells
 have hrd := HR.out.low hB4 hB
 have hat : TmAt w4 (w.heap.size + 1) w.heap.size 0 (.mk f xs) := ⟨by omega, A, c, k0, k1, hrd.more (by omega)⟩
 have hcl := small1_any (w.heap.size + 1) (w.heap.size + 1 + 1) (w.heap.size + 1) (w.heap.size + 1 + 1 + 1) (by omega) (by omega) (by omega) (by omega) (by omega) (sizeTs xs + 1) f xs w.heap.size 0 1 0 w4 (Nat.lt_succ_self _) (by omega) hat h3 h2 h4
 have q4 := h4.cell
 have Hcl := Lh hcl
 have HB4 := Lh hB4
 have hz4l : w.heap.size + 1 + 1 + 1 < w4.heap.size := by omega
 clear hcl h1 h2 h3 h4 k0 k1 hrd hat hB4 hz4
 go_wp2_with fail
 refine Hcl.out.mono ?_
 rintro e w5 ⟨b, c5, rfl, -, hu⟩
 have hfin : Below w.heap.size w w5 := HB4.out.trans (hu.toLow (by omega) (by rintro k rfl; omega))
 have Hfin := Lh hfin
 clear hu hfin
 go_wp2_with fail
 go_ret
 exact ⟨b, rfl, Hfin.out⟩
def chB (sig : List Sy) (s : Bool) (f : Int) (xs : List Tm) : Bool :=
 decide (f < 0) || (match sig[f.toNat]? with | some y => decide (y.ar = (xs.length : Int)) && (s || !y.pr) | none => false)
def chP (sig : List Sy) (s : Bool) (t : Tm) : Bool × Bool := (chB sig s t.fn t.args, false)
mutual
def funOk (N : Nat) : Tm → Prop
 | .mk f xs => f < N ∧ funsOk N xs
def funsOk (N : Nat) : List Tm → Prop
 | [] => True
 | x :: xs => funOk N x ∧ funsOk N xs
end
def ChI (B fb sb : Nat) (sig : List Sy) (A : Option Addr) (cs : Nat) (s : Bool) (w : World) : Prop := Box1 fb 4 (.bool s) w ∧ Box1 sb 24 (.slice A sig.length cs) w ∧ Rd w B (encSig sig) (.slice A sig.length cs)
def ChF (fb : Nat) (_ : World) (k : Nat) : Prop := k = fb
theorem ChF.ok {B fb sb : Nat} {sig : List Sy} {A : Option Addr} {cs : Nat} (hB : B ≤ fb) : StF B (ChF fb) (ChI B fb sb sig A cs) where
 low s w w' h hb := ⟨⟨h.1.low hb, h.2.1.low hb, h.2.2.low hb (by have := ltOf h.1; omega)⟩, fun k hk => hk⟩
 lt s w k h hk := by rw [hk]; exact ltOf h.1
 ge s w k h hk := by rw [hk]; exact hB
mutual
theorem chP_all (sig : List Sy) : ∀ (t : Tm) (s : Bool), (eaT (chP sig) s t).1 = true → funOk sig.length t
 | .mk f xs, s, h => by
   have e : chP sig s (.mk f xs) = (chB sig s f xs, false) := rfl
   rw [eaT, e] at h
   rw [funOk]
   cases hb : chB sig s f xs with
   | false => rw [hb] at h; simp at h
   | true =>
     rw [hb] at h
     refine ⟨?_, chPs_all sig xs _ (by simpa using h)⟩
     unfold chB at hb
     by_cases hf : f < 0
     · omega
     rw [decide_eq_false hf, Bool.false_or] at hb
     cases hs : sig[f.toNat]? with
     | none => rw [hs] at hb; cases hb
     | some y =>
       obtain ⟨hl, -⟩ := List.getElem?_eq_some_iff.1 hs
       omega
theorem chPs_all (sig : List Sy) : ∀ (xs : List Tm) (s : Bool), (eaTs (chP sig) s xs).1 = true → funsOk sig.length xs
 | [], s, h => by rw [funsOk]; trivial
 | x :: xs, s, h => by
   rw [eaTs_cons] at h
   rw [funsOk]
   by_cases hb : (eaT (chP sig) s x).1 = true
   · rw [if_pos hb] at h
     exact ⟨chP_all sig x s hb, chPs_all sig xs _ h⟩
   rw [if_neg hb] at h; cases h
end
theorem check1_any (B fb sb : Nat) (hBf : B ≤ fb) (hne : sb ≠ fb) (sig : List Sy) (A : Option Addr) (cs : Nat) (s : Bool) (w : World) (ab off : Nat) (t : Tm) (hI : ChI B fb sb sig A cs s w) (hat : TmAt w B ab off t) :
 Calls Tryz.prog 54 (#[.pointer (some ⟨ab, off, none⟩)] ++ #[.pointer (some ⟨fb, 0, none⟩), .pointer (some ⟨sb, 0, none⟩)]) w (StB (ChF fb) (ChI B fb sb sig A cs) (chP sig s t) w) := by
 obtain ⟨f, xs⟩ := t
 obtain ⟨hab, Ax, cx, k0, k1, hrd⟩ := hat.form
 obtain ⟨_, _, hv0, -, hxn, -⟩ := hrd.tm_form
 obtain ⟨hf1, hs1, hr1⟩ := hI
 obtain ⟨r, hr⟩ : ∃ r, chB sig s f xs = r := ⟨_, rfl⟩
 have hp : chP sig s (.mk f xs) = (r, false) := by rw [← hr]; rfl
 rw [hp]
 have hfl := ltOf hf1
 have q0 := hf1.cell
 have hfr := hf1.free
 have hset := hf1.set (.bool false)
 have hus : Upd w (w.setCell ⟨fb, 0, none⟩ (.bool false)) (fun k => k = fb) := upd_set _
 have Hset := Lh hset
 have Hus := Lh hus
 have HS0 := Lh hs1
 have HR0 := Lh hr1
 have Hr := Lh hr
 have K0w := Lh k0
 have K1w := Lh k1
 clear hset hus hf1 hs1 hr1 hr k0 k1 hrd hat hp hv0
 go_enter Tryz.func54, Tryz.ntmps54
 go_upto_region 3 with fail
 have hset := Hset.out
 have hus := Hus.out
 clear Hset Hus
 generalize w.setCell ⟨fb, 0, none⟩ (.bool false) = w1 at hset hus ⊢
 have hz1 := hus.size
 have hal1 : ab < w1.heap.size := by omega
 have hbl1 : B ≤ w1.heap.size := by omega
 have hk0 : w1.cell? ⟨ab, off, none⟩ = some (.int .i64 f) := keepC hus (show ab ≠ fb by omega) (show ab < w.heap.size by omega) K0w.out
 have K0 := Lh hk0
 have K1 := Lh (keepC hus (show ab ≠ fb by omega) (show ab < w.heap.size by omega) K1w.out)
 have HN1 := Lh hset
 have HU1 := Lh (show Upd w w1 (ChF fb w) from hus)
 have HS1 := Lh (HS0.out.upd hus hne)
 have hr1 : Rd w1 B (encSig sig) (.slice A sig.length cs) := ((HR0.out.rdP (by omega)).upd hus (fun b hb _ e => by omega)).rd (fun b hb _ => hb)
 have HR1 := Lh hr1
 clear hset hus q0 hfr hr1
 by_cases hf : f < 0
 · have hrt : r = true := by rw [← Hr.out]; unfold chB; rw [decide_eq_true hf]; rfl
   have Hrt := Lh hrt
   clear hrt
   go_wp2_with fail
   go_ret
   exact ⟨by rw [Hrt.out]; rfl, ⟨HN1.out, HS1.out, HR1.out⟩, HU1.out, fun k hk => .inl hk⟩
 obtain ⟨fi, rfl⟩ : ∃ fi : Nat, f = (fi : Int) := ⟨f.toNat, by omega⟩
 have hf2 : 0 ≤ (fi : Int) := by omega
 go_upto_region 5 with fail
 clear hk0
 have hrr := Hr.out
 unfold chB at hrr
 rw [decide_eq_false hf, Bool.false_or, Int.toNat_natCast] at hrr
 by_cases hl : fi < sig.length
 · obtain ⟨y, hy⟩ : ∃ y, sig[fi] = y := ⟨_, rfl⟩
   rw [List.getElem?_eq_getElem hl, hy] at hrr
   have hrr : (decide (y.ar = (xs.length : Int)) && (s || !y.pr)) = r := hrr
   obtain ⟨gb, go, rfl, hgb, g0, g1, g2⟩ := HR1.out.sy_at hl
   rw [hy] at g0 g1 g2
   have hgl1 : gb < w1.heap.size := by omega
   have G1 := Lh g1
   have G2 := Lh g2
   have hfi : fi < sig.length := hl
   have hfi2 : ¬ ((sig.length : Int) ≤ (fi : Int)) := by omega
   clear g0 g1 g2 hy
   by_cases ha : y.ar = (xs.length : Int)
   · have ha2 : (y.ar == (xs.length : Int)) = true := by rw [ha]; simp
     rw [decide_eq_true ha, Bool.true_and] at hrr
     have Ha := Lh ha
     clear ha Hr
     cases s with
     | true =>
       have hrt : r = true := hrr.symm
       have Hr := Lh hrt
       clear hrt hrr
       refine bu 41 (fun w' => Below w1.heap.size w1 w') (fun wd hwd hbd => ?_) ?_
       · exact hwd ▸ hbd
       refine pu 0 (.pointer (some ⟨ab, off, none⟩)) ?_
       refine pu 1 (.pointer (some ⟨ab, off, none⟩)) ?_
       refine pu 2 (.pointer (some ⟨ab, off, none⟩)) ?_
       refine ru 3 (.int .i64 (fi : Nat)) (fun w' hw => ?_) ?_
       · have q0 := (hw.cell (p := ⟨ab, off, none⟩) hal1).trans K0.out
         simp [execOp, go_sem, q0]
       refine pu 4 (.pointer (some ⟨sb, 0, none⟩)) ?_
       refine ru 5 (.slice (some ⟨gb, go, none⟩) sig.length cs) (fun w' hw => ?_) ?_
       · have q2 := (HS1.out.low hw).cell
         simp [execOp, go_sem, q2]
       refine pu 6 (.int .i64 (sig.length : Nat)) ?_
       refine ru 7 (.bool true) (fun w' hw => ?_) ?_
       · simp [execOp, go_sem, hl]
       refine pu 8 (.bool true) ?_
       refine pu 9 (.pointer (some ⟨sb, 0, none⟩)) ?_
       refine ru 10 (.slice (some ⟨gb, go, none⟩) sig.length cs) (fun w' hw => ?_) ?_
       · have q2 := (HS1.out.low hw).cell
         simp [execOp, go_sem, q2]
       refine pu 11 (.pointer (some ⟨ab, off, none⟩)) ?_
       refine pu 12 (.pointer (some ⟨ab, off, none⟩)) ?_
       refine pu 13 (.pointer (some ⟨ab, off, none⟩)) ?_
       refine ru 14 (.int .i64 (fi : Nat)) (fun w' hw => ?_) ?_
       · have q0 := (hw.cell (p := ⟨ab, off, none⟩) hal1).trans K0.out
         simp [execOp, go_sem, q0]
       refine ru 15 (.pointer (some ⟨gb, go + fi * 3, none⟩)) (fun w' hw => ?_) ?_
       · simp [execOp, go_sem, hfi, hfi2]
       refine pu 16 (.pointer (some ⟨gb, go + fi * 3 + 1, none⟩)) ?_
       refine ru 17 (.int .i64 y.ar) (fun w' hw => ?_) ?_
       · have q3 := (hw.cell (p := ⟨gb, go + fi * 3 + 1, none⟩) hgl1).trans G1.out
         simp [execOp, go_sem, q3]
       refine pu 18 (.pointer (some ⟨ab, off, none⟩)) ?_
       refine pu 19 (.pointer (some ⟨ab, off, none⟩)) ?_
       refine pu 20 (.pointer (some ⟨ab, off + 1, none⟩)) ?_
       refine ru 21 (.slice Ax xs.length cx) (fun w' hw => ?_) ?_
       · have q1 := (hw.cell (p := ⟨ab, off + 1, none⟩) hal1).trans K1.out
         simp [execOp, go_sem, q1]
       refine pu 22 (.int .i64 (xs.length : Nat)) ?_
       refine ru 23 (.bool true) (fun w' hw => ?_) ?_
       · simp [execOp, go_sem, ha2]
       refine pu 24 (.bool true) ?_
       refine pu 25 (.bool true) ?_
       refine pu 26 (.bool true) ?_
       refine pu 27 (.bool true) ?_
       refine su 28 ?_
       refine su 29 ?_
       refine su 30 ?_
       refine su 31 ?_
       refine su 32 ?_
       refine su 33 ?_
       refine su 34 ?_
       refine su 35 ?_
       refine su 36 ?_
       refine su 37 ?_
       refine pu 38 (.bool true) ?_
       refine pu 39 (.bool true) ?_
       refine pu 40 (.bool true) ?_
       refine du (fun wz hS => ?_)
       have HSz := Lh hS
       clear hS
       go_wp2_with fail
       go_ret
       have hz9 := HSz.out.size
       exact ⟨by rw [Hr.out]; rfl, ⟨HN1.out.low HSz.out, HS1.out.low HSz.out, HR1.out.low HSz.out (by omega)⟩, HU1.out.trans (Upd.low HSz.out (ChF fb w)) (fun _ e => .inl e), fun k hk => .inl hk⟩
     | false =>
       have hrt : r = !y.pr := by rw [← hrr]; rfl
       have Hr := Lh hrt
       clear hrt hrr
       refine bu 41 (fun w' => Below w1.heap.size w1 w') (fun wd hwd hbd => ?_) ?_
       · exact hwd ▸ hbd
       refine pu 0 (.pointer (some ⟨ab, off, none⟩)) ?_
       refine pu 1 (.pointer (some ⟨ab, off, none⟩)) ?_
       refine pu 2 (.pointer (some ⟨ab, off, none⟩)) ?_
       refine ru 3 (.int .i64 (fi : Nat)) (fun w' hw => ?_) ?_
       · have q0 := (hw.cell (p := ⟨ab, off, none⟩) hal1).trans K0.out
         simp [execOp, go_sem, q0]
       refine pu 4 (.pointer (some ⟨sb, 0, none⟩)) ?_
       refine ru 5 (.slice (some ⟨gb, go, none⟩) sig.length cs) (fun w' hw => ?_) ?_
       · have q2 := (HS1.out.low hw).cell
         simp [execOp, go_sem, q2]
       refine pu 6 (.int .i64 (sig.length : Nat)) ?_
       refine ru 7 (.bool true) (fun w' hw => ?_) ?_
       · simp [execOp, go_sem, hl]
       refine pu 8 (.bool true) ?_
       refine pu 9 (.pointer (some ⟨sb, 0, none⟩)) ?_
       refine ru 10 (.slice (some ⟨gb, go, none⟩) sig.length cs) (fun w' hw => ?_) ?_
       · have q2 := (HS1.out.low hw).cell
         simp [execOp, go_sem, q2]
       refine pu 11 (.pointer (some ⟨ab, off, none⟩)) ?_
       refine pu 12 (.pointer (some ⟨ab, off, none⟩)) ?_
       refine pu 13 (.pointer (some ⟨ab, off, none⟩)) ?_
       refine ru 14 (.int .i64 (fi : Nat)) (fun w' hw => ?_) ?_
       · have q0 := (hw.cell (p := ⟨ab, off, none⟩) hal1).trans K0.out
         simp [execOp, go_sem, q0]
       refine ru 15 (.pointer (some ⟨gb, go + fi * 3, none⟩)) (fun w' hw => ?_) ?_
       · simp [execOp, go_sem, hfi, hfi2]
       refine pu 16 (.pointer (some ⟨gb, go + fi * 3 + 1, none⟩)) ?_
       refine ru 17 (.int .i64 y.ar) (fun w' hw => ?_) ?_
       · have q3 := (hw.cell (p := ⟨gb, go + fi * 3 + 1, none⟩) hgl1).trans G1.out
         simp [execOp, go_sem, q3]
       refine pu 18 (.pointer (some ⟨ab, off, none⟩)) ?_
       refine pu 19 (.pointer (some ⟨ab, off, none⟩)) ?_
       refine pu 20 (.pointer (some ⟨ab, off + 1, none⟩)) ?_
       refine ru 21 (.slice Ax xs.length cx) (fun w' hw => ?_) ?_
       · have q1 := (hw.cell (p := ⟨ab, off + 1, none⟩) hal1).trans K1.out
         simp [execOp, go_sem, q1]
       refine pu 22 (.int .i64 (xs.length : Nat)) ?_
       refine ru 23 (.bool true) (fun w' hw => ?_) ?_
       · simp [execOp, go_sem, ha2]
       refine pu 24 (.bool true) ?_
       refine pu 25 (.bool true) ?_
       refine pu 26 (.bool false) ?_
       refine pu 27 (.bool false) ?_
       refine pu 28 (.pointer (some ⟨sb, 0, none⟩)) ?_
       refine ru 29 (.slice (some ⟨gb, go, none⟩) sig.length cs) (fun w' hw => ?_) ?_
       · have q2 := (HS1.out.low hw).cell
         simp [execOp, go_sem, q2]
       refine pu 30 (.pointer (some ⟨ab, off, none⟩)) ?_
       refine pu 31 (.pointer (some ⟨ab, off, none⟩)) ?_
       refine pu 32 (.pointer (some ⟨ab, off, none⟩)) ?_
       refine ru 33 (.int .i64 (fi : Nat)) (fun w' hw => ?_) ?_
       · have q0 := (hw.cell (p := ⟨ab, off, none⟩) hal1).trans K0.out
         simp [execOp, go_sem, q0]
       refine ru 34 (.pointer (some ⟨gb, go + fi * 3, none⟩)) (fun w' hw => ?_) ?_
       · simp [execOp, go_sem, hfi, hfi2]
       refine pu 35 (.pointer (some ⟨gb, go + fi * 3 + 2, none⟩)) ?_
       refine ru 36 (.bool y.pr) (fun w' hw => ?_) ?_
       · have q4 := (hw.cell (p := ⟨gb, go + fi * 3 + 2, none⟩) hgl1).trans G2.out
         simp [execOp, go_sem, q4]
       refine pu 37 (.bool (!y.pr)) ?_
       refine pu 38 (.bool (!y.pr)) ?_
       refine pu 39 (.bool (!y.pr)) ?_
       refine pu 40 (.bool (!y.pr)) ?_
       refine du (fun wz hS => ?_)
       have HSz := Lh hS
       clear hS
       go_wp2_with fail
       go_ret
       have hz9 := HSz.out.size
       exact ⟨by rw [Hr.out]; rfl, ⟨HN1.out.low HSz.out, HS1.out.low HSz.out, HR1.out.low HSz.out (by omega)⟩, HU1.out.trans (Upd.low HSz.out (ChF fb w)) (fun _ e => .inl e), fun k hk => .inl hk⟩
   have ha2 : (y.ar == (xs.length : Int)) = false := by simpa using ha
   rw [decide_eq_false ha, Bool.false_and] at hrr
   have Ha := Lh ha
   have hrt : r = false := hrr.symm
   clear ha Hr
   have Hr := Lh hrt
   clear hrt hrr
   refine bu 41 (fun w' => Below w1.heap.size w1 w') (fun wd hwd hbd => ?_) ?_
   · exact hwd ▸ hbd
   refine pu 0 (.pointer (some ⟨ab, off, none⟩)) ?_
   refine pu 1 (.pointer (some ⟨ab, off, none⟩)) ?_
   refine pu 2 (.pointer (some ⟨ab, off, none⟩)) ?_
   refine ru 3 (.int .i64 (fi : Nat)) (fun w' hw => ?_) ?_
   · have q0 := (hw.cell (p := ⟨ab, off, none⟩) hal1).trans K0.out
     simp [execOp, go_sem, q0]
   refine pu 4 (.pointer (some ⟨sb, 0, none⟩)) ?_
   refine ru 5 (.slice (some ⟨gb, go, none⟩) sig.length cs) (fun w' hw => ?_) ?_
   · have q2 := (HS1.out.low hw).cell
     simp [execOp, go_sem, q2]
   refine pu 6 (.int .i64 (sig.length : Nat)) ?_
   refine ru 7 (.bool true) (fun w' hw => ?_) ?_
   · simp [execOp, go_sem, hl]
   refine pu 8 (.bool true) ?_
   refine pu 9 (.pointer (some ⟨sb, 0, none⟩)) ?_
   refine ru 10 (.slice (some ⟨gb, go, none⟩) sig.length cs) (fun w' hw => ?_) ?_
   · have q2 := (HS1.out.low hw).cell
     simp [execOp, go_sem, q2]
   refine pu 11 (.pointer (some ⟨ab, off, none⟩)) ?_
   refine pu 12 (.pointer (some ⟨ab, off, none⟩)) ?_
   refine pu 13 (.pointer (some ⟨ab, off, none⟩)) ?_
   refine ru 14 (.int .i64 (fi : Nat)) (fun w' hw => ?_) ?_
   · have q0 := (hw.cell (p := ⟨ab, off, none⟩) hal1).trans K0.out
     simp [execOp, go_sem, q0]
   refine ru 15 (.pointer (some ⟨gb, go + fi * 3, none⟩)) (fun w' hw => ?_) ?_
   · simp [execOp, go_sem, hfi, hfi2]
   refine pu 16 (.pointer (some ⟨gb, go + fi * 3 + 1, none⟩)) ?_
   refine ru 17 (.int .i64 y.ar) (fun w' hw => ?_) ?_
   · have q3 := (hw.cell (p := ⟨gb, go + fi * 3 + 1, none⟩) hgl1).trans G1.out
     simp [execOp, go_sem, q3]
   refine pu 18 (.pointer (some ⟨ab, off, none⟩)) ?_
   refine pu 19 (.pointer (some ⟨ab, off, none⟩)) ?_
   refine pu 20 (.pointer (some ⟨ab, off + 1, none⟩)) ?_
   refine ru 21 (.slice Ax xs.length cx) (fun w' hw => ?_) ?_
   · have q1 := (hw.cell (p := ⟨ab, off + 1, none⟩) hal1).trans K1.out
     simp [execOp, go_sem, q1]
   refine pu 22 (.int .i64 (xs.length : Nat)) ?_
   refine ru 23 (.bool false) (fun w' hw => ?_) ?_
   · simp [execOp, go_sem, ha2]
   refine pu 24 (.bool false) ?_
   refine pu 25 (.bool false) ?_
   refine su 26 ?_
   refine su 27 ?_
   refine su 28 ?_
   refine su 29 ?_
   refine su 30 ?_
   refine su 31 ?_
   refine su 32 ?_
   refine su 33 ?_
   refine su 34 ?_
   refine su 35 ?_
   refine su 36 ?_
   refine su 37 ?_
   refine su 38 ?_
   refine pu 39 (.bool false) ?_
   refine pu 40 (.bool false) ?_
   refine du (fun wz hS => ?_)
   have HSz := Lh hS
   clear hS
   go_wp2_with fail
   go_ret
   have hz9 := HSz.out.size
   exact ⟨by rw [Hr.out]; rfl, ⟨HN1.out.low HSz.out, HS1.out.low HSz.out, HR1.out.low HSz.out (by omega)⟩, HU1.out.trans (Upd.low HSz.out (ChF fb w)) (fun _ e => .inl e), fun k hk => .inl hk⟩
 have hl2 : sig.length ≤ fi := by omega
 rw [List.getElem?_eq_none hl2] at hrr
 have hrt : r = false := hrr.symm
 clear Hr
 have Hr := Lh hrt
 clear hrt hrr
 refine bu 41 (fun w' => Below w1.heap.size w1 w') (fun wd hwd hbd => ?_) ?_
 · exact hwd ▸ hbd
 refine pu 0 (.pointer (some ⟨ab, off, none⟩)) ?_
 refine pu 1 (.pointer (some ⟨ab, off, none⟩)) ?_
 refine pu 2 (.pointer (some ⟨ab, off, none⟩)) ?_
 refine ru 3 (.int .i64 (fi : Nat)) (fun w' hw => ?_) ?_
 · have q0 := (hw.cell (p := ⟨ab, off, none⟩) hal1).trans K0.out
   simp [execOp, go_sem, q0]
 refine pu 4 (.pointer (some ⟨sb, 0, none⟩)) ?_
 refine ru 5 (.slice A sig.length cs) (fun w' hw => ?_) ?_
 · have q2 := (HS1.out.low hw).cell
   simp [execOp, go_sem, q2]
 refine pu 6 (.int .i64 (sig.length : Nat)) ?_
 refine ru 7 (.bool false) (fun w' hw => ?_) ?_
 · simp [execOp, go_sem, hl2]
 refine pu 8 (.bool false) ?_
 refine su 9 ?_
 refine su 10 ?_
 refine su 11 ?_
 refine su 12 ?_
 refine su 13 ?_
 refine su 14 ?_
 refine su 15 ?_
 refine su 16 ?_
 refine su 17 ?_
 refine su 18 ?_
 refine su 19 ?_
 refine su 20 ?_
 refine su 21 ?_
 refine su 22 ?_
 refine su 23 ?_
 refine pu 24 (.bool false) ?_
 refine pu 25 (.bool false) ?_
 refine su 26 ?_
 refine su 27 ?_
 refine su 28 ?_
 refine su 29 ?_
 refine su 30 ?_
 refine su 31 ?_
 refine su 32 ?_
 refine su 33 ?_
 refine su 34 ?_
 refine su 35 ?_
 refine su 36 ?_
 refine su 37 ?_
 refine su 38 ?_
 refine pu 39 (.bool false) ?_
 refine pu 40 (.bool false) ?_
 refine du (fun wz hS => ?_)
 have HSz := Lh hS
 clear hS
 go_wp2_with fail
 go_ret
 have hz9 := HSz.out.size
 exact ⟨by rw [Hr.out]; rfl, ⟨HN1.out.low HSz.out, HS1.out.low HSz.out, HR1.out.low HSz.out (by omega)⟩, HU1.out.trans (Upd.low HSz.out (ChF fb w)) (fun _ e => .inl e), fun k hk => .inl hk⟩
theorem checkEach_any {σ : Type} (B : Nat) (F : World → Nat → Prop) (I : σ → World → Prop) (hF : StF B F I) (bx : Array Value) (p : σ → Tm → Bool × σ) (Z : Tm → Prop) (hZ : ∀ f xs x, Z (.mk f xs) → x ∈ xs → Z x) (R : σ → Nat → Prop) (hR : RoomP p R) (W : Nat)
 (hclo : ∀ s w ab off (t : Tm), W ≤ w.heap.size → I s w → TmAt w B ab off t → Z t → R s 1 → Calls Tryz.prog 54 (#[.pointer (some ⟨ab, off, none⟩)] ++ bx) w (StB F I (p s t) w)) (D : Nat) :
 ∀ (s : σ) (f : Int) (xs : List Tm) (ab off : Nat) (w : World), sizeTs xs < D → W ≤ w.heap.size → B ≤ w.heap.size → I s w → TmAt w B ab off (.mk f xs) → Z (.mk f xs) → R s (sizeT (.mk f xs)) →
 Calls Tryz.prog 53 #[.pointer (some ⟨ab, off, none⟩), .func (.func 54) #[] bx] w (StB F I (eaT p s (.mk f xs)) w) := by
 induction D with
 | zero => intro s f xs ab off w h; omega
 | succ D ih =>
 intro s f xs ab off w hD hW hB hs hat hz hrm
 obtain ⟨hab, A, c, c0, c1, hrd⟩ := hat.form
 have hrm1 : R s (1 + sizeTs xs) := by rw [sizeT] at hrm; exact hR.mono s _ _ (by omega) hrm
 have hcl := hclo s w ab off (.mk f xs) hW hs hat hz (hR.mono s _ _ (by omega) hrm1)
 obtain ⟨⟨b, s1⟩, hp⟩ : ∃ r, p s (.mk f xs) = r := ⟨_, rfl⟩
 rw [hp] at hcl
 have hrm2 : R s1 (sizeTs xs) := by
  have := hR.step s (.mk f xs) (sizeTs xs) (hR.mono s _ _ (by omega) hrm1)
  rw [hp] at this
  exact this
 obtain ⟨r, hr⟩ : ∃ r, eaT p s (.mk f xs) = r := ⟨_, rfl⟩
 rw [hr]
 rw [eaT, hp] at hr
 have hnx := hrd.tm_form
 obtain ⟨_, _, hv, -, hn, -⟩ := hnx
 have Hcl := Lh hcl
 have HF := Lh hF
 have Hr := Lh hr
 have Hs := Lh hs
 have Hrd := Lh hrd
 have Hih := Lh ih
 have Hz := Lh hz
 have HZ := Lh hZ
 have Hrm := Lh hrm2
 have HR := Lh hR
 have C0 := Lh c0
 have C1 := Lh c1
 clear hcl hF hr hs hrd ih hz hZ hat hp hclo hv c0 c1 hrm hrm1 hrm2 hR
 go_enter Tryz.func53, Tryz.ntmps53
 go_wp2_with fail
 refine Hcl.out.mono ?_
 rintro e w1 ⟨rfl, hst1⟩
 have Hst1 := Lh hst1
 clear hst1
 cases b with
 | false =>
   go_wp2_with fail
   go_ret
   have hrf : r = (false, s1) := by rw [← Hr.out]; simp
   rw [hrf]
   exact ⟨rfl, Hst1.out⟩
 | true =>
   have hz1 := Hst1.out.upd.size
   have d1 := (World.cell?_of_block (a := ⟨ab, off + 1, none⟩) (Hst1.out.upd.block ab (by omega) (fun h => by have := HF.out.ge _ _ _ Hs.out h; omega))).trans C1.out
   go_wp2_with fail
   clear d1
   go_loopw [15] (fun i wr => ∃ (k : Nat) (s2 : σ), k ≤ xs.length ∧ i = .int .i64 k ∧ r = eaTs p s2 (xs.drop k) ∧ R s2 (sizeTs (xs.drop k)) ∧ Stp F I s2 w wr) (fun i _ => xs.length - (intOf i).toNat)
   case atStart => exact ⟨0, s1, Nat.zero_le _, rfl, by rw [← Hr.out]; simp, Hrm.out, Hst1.out⟩
   obtain ⟨k, s2, hk, rfl, hgo, hrk, hst⟩ := hrel
   have hzr := hst.upd.size
   have Hgo := Lh hgo
   have Hst := Lh hst
   clear hgo
   by_cases hlt : k < xs.length
   · have hlt2 : ¬ ((xs.length : Int) ≤ (k : Int)) := by omega
     have d1 := (World.cell?_of_block (a := ⟨ab, off + 1, none⟩) (hst.upd.block ab (by omega) (fun h => by have := HF.out.ge _ _ _ Hs.out h; omega))).trans C1.out
     obtain ⟨sb, so, f1, us, A2, c2, hA, hxk, hsb, k0, k1, hr1⟩ := (hst.rd HF.out Hs.out Hrd.out hB).tm_at hlt
     subst hA
     have hsz := sizeTs_mem hlt
     rw [hxk] at hsz
     simp only [sizeT] at hsz
     have hzx := HZ.out f xs _ Hz.out (List.getElem_mem hlt)
     rw [hxk] at hzx
     have hstep : r = if (eaT p s2 (.mk f1 us)).1 = true then eaTs p (eaT p s2 (.mk f1 us)).2 (xs.drop (k + 1)) else (false, (eaT p s2 (.mk f1 us)).2) := by
      rw [Hgo.out, List.drop_eq_getElem_cons hlt, hxk, eaTs_cons]
     have hsd : sizeTs (xs.drop k) = sizeT (.mk f1 us) + sizeTs (xs.drop (k + 1)) := by rw [List.drop_eq_getElem_cons hlt, hxk, sizeTs]
     rw [hsd] at hrk
     have hrn := HR.out.eaT (.mk f1 us) s2 _ hrk
     have hcl := Hih.out s2 f1 us sb (so + k * 2) wr (by omega) (by omega) (by omega) Hst.out.st ⟨hsb, A2, c2, k0, k1, hr1⟩ hzx (HR.out.mono s2 _ _ (by omega) hrk)
     obtain ⟨⟨b2, s3⟩, hp2⟩ : ∃ q, eaT p s2 (.mk f1 us) = q := ⟨_, rfl⟩
     rw [hp2] at hcl hstep hrn
     have Hrn := Lh hrn
     have Hcl2 := Lh hcl
     have Hstep := Lh hstep
     clear hcl hstep hp2 hxk k0 k1 hr1 hzx hst hrk hrn hsd
     go_wp2_with fail
     refine Hcl2.out.mono ?_
     rintro e w6 ⟨rfl, hst6⟩
     have Hst6 := Lh hst6
     clear hst6 d1
     cases b2 with
     | true =>
       go_wp2_with fail
       go_roundw
       case rel => exact ⟨k + 1, s3, by omega, by go_num, by rw [Hstep.out]; simp, Hrn.out, Hst.out.trans Hst6.out⟩
       case measure => simp [intOf]; omega
     | false =>
       go_wp2_with fail
       go_ret
       have hrf : r = (false, s3) := by rw [Hstep.out]; simp
       rw [hrf]
       exact ⟨rfl, Hst.out.trans Hst6.out⟩
   have hrt : r = (true, s2) := by rw [Hgo.out, List.drop_eq_nil_of_le (by omega), eaTs_nil]
   have Hrt := Lh hrt
   clear hrt hst
   go_wp2_with fail
   go_ret
   rw [Hrt.out]
   exact ⟨rfl, Hst.out⟩
def ChkR (N : Nat) (t : Tm) (w : World) (e : Ending) (w' : World) : Prop := ∃ n : Int, e = .returned (.int .i64 n) ∧ (n = 0 → funOk N t) ∧ Below w.heap.size w w'
theorem noRoom {σ : Type} (p : σ → Tm → Bool × σ) : RoomP p (fun _ _ => True) := ⟨fun _ _ _ _ _ => trivial, fun _ _ _ _ => trivial⟩
theorem check29_any (sig : List Sy) (A : Option Addr) (cs : Nat) (f : Int) (xs : List Tm) (v2 : Value) (B : Nat) (w : World) (hs : Rd w B (encSig sig) (.slice A sig.length cs)) (hlen : sig.length ≤ 1100000) (hr : Rd w B (.sl 2 (encTms xs)) v2) (hB : B ≤ w.heap.size) :
 Calls Tryz.prog 29 #[.agg #[.slice A sig.length cs], .agg #[.int .i64 f, v2]] w (ChkR sig.length (.mk f xs) w) := by
 obtain ⟨Ax, c, rfl, -, hn, -⟩ := hr.tm_form
 have HS := Lh hs
 have HR := Lh hr
 have hck := fun (w' : World) (hb : Below w.heap.size w w') => check28_any sig A cs B w' (hs.low hb hB) (by have := hb.size; omega) hlen
 have hsm := fun (w' : World) (hb : Below w.heap.size w w') => small28_any f xs (.slice Ax xs.length c) B w' (hr.low hb hB) (by have := hb.size; omega)
 have Hck := Lh hck
 have Hsm := Lh hsm
 clear hs hr hck hsm
 go_enter Tryz.func29, Tryz.ntmps29
 go_upto_region 1 with fail
 obtain ⟨hx1, hx2, hB2, hz2⟩ := boxes2 w (.cells #[.slice A sig.length cs] 24) (.cells #[.int .i64 f, .slice Ax xs.length c] 32)
 generalize (w.alloc (.cells #[.slice A sig.length cs] 24)).alloc (.cells #[.int .i64 f, .slice Ax xs.length c] 32) = w2 at hx1 hx2 hB2 hz2 ⊢
 have hx1 : Box1 w.heap.size 24 (.slice A sig.length cs) w2 := hx1
 have hx2 : Box2 (w.heap.size + 1) 32 (.int .i64 f) (.slice Ax xs.length c) w2 := hx2
 have HX1 := Lh hx1
 have HX2 := Lh hx2
 have HB2 := Lh hB2
 have hz2l : w.heap.size + 1 < w2.heap.size := by omega
 have q1 := hx1.cell
 clear hx1 hx2 hB2 hz2
 go_wp2_with fail
 refine (Hck.out w2 HB2.out).mono ?_
 rintro e w3 ⟨n, rfl, -, -, hb3⟩
 have HB3 := Lh (HB2.out.trans (hb3.mono (by omega)))
 have Hb3 := Lh hb3
 have hz3 := hb3.size
 clear hb3 q1
 by_cases hn0 : n = 0
 · have hnb : (n != 0) = false := by rw [hn0]; rfl
   obtain ⟨q1, q2, -⟩ := (HX2.out.low Hb3.out).cells
   clear hn0
   go_wp2_with fail
   refine (Hsm.out w3 HB3.out).mono ?_
   rintro e w4 ⟨b, rfl, hb4⟩
   have HB4 := Lh (HB3.out.trans (hb4.mono (by omega)))
   have Hb4 := Lh (Hb3.out.trans (hb4.mono hz3))
   have hz4 := hb4.size
   clear hb4 q1 q2
   cases b with
   | false =>
     go_wp2_with fail
     go_ret
     exact ⟨2, rfl, fun h => absurd h (by decide), HB4.out⟩
   | true =>
     go_upto_region 4 with fail
     obtain ⟨fb, hfb⟩ : ∃ fb, w4.heap.size = fb := ⟨_, rfl⟩
     have hx5 := heap_alloc_new w4 (.cells #[.bool true] 4)
     have hx5 : Box1 w4.heap.size 4 (.bool true) _ := hx5
     have hb5 := below_box w4 (.cells #[.bool true] 4)
     have hz5 : w4.heap.size < (w4.alloc (.cells #[.bool true] 4)).heap.size := by simp
     generalize w4.alloc (.cells #[.bool true] 4) = w5 at hx5 hb5 hz5 ⊢
     rw [hfb] at hx5
     rw [hfb]
     have hb25 : Below w2.heap.size w2 w5 := Hb4.out.trans (hb5.mono (by have := Hb4.out.size; omega))
     have hb05 : Below w.heap.size w w5 := HB2.out.trans (hb25.mono (by omega))
     obtain ⟨k0, k1, -⟩ := (HX2.out.low hb25).cells
     have hat : TmAt w5 (w.heap.size + 1 + 1) (w.heap.size + 1) 0 (.mk f xs) := ⟨by omega, Ax, c, k0, k1, (HR.out.low hb05 hB).more (by omega)⟩
     have hI : ChI (w.heap.size + 1 + 1) fb w.heap.size sig A cs true w5 := ⟨hx5, HX1.out.low hb25, (HS.out.low hb05 hB).more (by omega)⟩
     have hcl := checkEach_any (w.heap.size + 1 + 1) (ChF fb) (ChI (w.heap.size + 1 + 1) fb w.heap.size sig A cs) (ChF.ok (by omega)) #[.pointer (some ⟨fb, 0, none⟩), .pointer (some ⟨w.heap.size, 0, none⟩)] (chP sig) (fun _ => True) (fun _ _ _ _ _ => trivial) (fun _ _ => True) (noRoom _) 0
      (fun s wq ab off t _ hI hat _ _ => check1_any (w.heap.size + 1 + 1) fb w.heap.size (by omega) (by omega) sig A cs s wq ab off t hI hat)
      (sizeTs xs + 1) true f xs (w.heap.size + 1) 0 w5 (Nat.lt_succ_self _) (Nat.zero_le _) (by omega) hI hat trivial trivial
     obtain ⟨⟨b5, s5⟩, hp⟩ : ∃ r, eaT (chP sig) true (.mk f xs) = r := ⟨_, rfl⟩
     have hok : b5 = true → funOk sig.length (.mk f xs) := fun h => chP_all sig (.mk f xs) true (by rw [hp]; exact h)
     rw [hp] at hcl
     have Hcl := Lh hcl
     have Hok := Lh hok
     have Hb05 := Lh hb05
     have hfbl : w.heap.size ≤ fb := by omega
     have hz05 := hb05.size
     clear hcl hok hb05 hx5 hb5 hz5 hb25 k0 k1 hat hI hp hfb
     go_wp2_with fail
     refine Hcl.out.mono ?_
     rintro e w6 ⟨rfl, hst⟩
     have hu : Upd _ w6 (ChF fb _) := hst.upd
     have Hfin := Lh (Hb05.out.trans (hu.toLow hz05 (by rintro k rfl; exact hfbl)))
     clear hst hu
     cases b5 with
     | true =>
       go_wp2_with fail
       go_ret
       exact ⟨0, rfl, fun _ => Hok.out trivial, Hfin.out⟩
     | false =>
       go_wp2_with fail
       go_ret
       exact ⟨2, rfl, fun h => absurd h (by decide), Hfin.out⟩
 have hnb : (n != 0) = true := by rw [bne_iff_ne]; exact hn0
 clear hn0
 go_wp2_with fail
 go_ret
 exact ⟨2, rfl, fun h => absurd h (by decide), HB3.out⟩
structure YdI (N B l ob : Nat) (I : Nat → World → Prop) : Prop where
 low : ∀ m w w', I m w → Below w.heap.size w w' → I m w'
 lt : ∀ m w, I m w → ob < w.heap.size ∧ l < w.heap.size
 geo : B ≤ ob
 gel : B ≤ l
 yok : ∀ (m fi : Nat) (W : World), I m W → fi < N → m < 400000000 → YieldAt Fence.wide 3 Tryz.prog l #[.int .i64 (fi : Nat)] W (fun e W' => e = .returned (.bool true) ∧ I (m + 1) W' ∧ Upd W W' (fun k => k = ob ∨ k = l))
def WlkR (I : Nat → World → Prop) (ob l m n : Nat) (w : World) (e : Ending) (w' : World) : Prop := ∃ m', e = .returned (.bool true) ∧ m' ≤ m + n ∧ I m' w' ∧ Upd w w' (fun k => k = ob ∨ k = l)
theorem funsOk_mem {N : Nat} : ∀ {xs : List Tm} {x : Tm}, funsOk N xs → x ∈ xs → funOk N x
 | y :: ys, x, h, hx => by
   rw [funsOk] at h
   rcases List.mem_cons.1 hx with rfl | hx
   · exact h.1
   exact funsOk_mem h.2 hx
theorem walk56_any (N B l ob yb cb : Nat) (I : Nat → World → Prop) (hI : YdI N B l ob I) (hyo : yb ≠ ob ∧ yb ≠ l) (hco : cb ≠ ob ∧ cb ≠ l) (D : Nat) : ∀ (f : Int) (xs : List Tm) (v2 : Value) (m : Nat) (w : World), sizeTs xs < D → funOk N (.mk f xs) → Rd w B (.sl 2 (encTms xs)) v2 → B ≤ w.heap.size → I m w → m + sizeT (.mk f xs) ≤ 400000000 →
 Box1 yb 99 (.func (.yield l) #[] #[]) w → Box1 cb 100 (.func (.func 56) #[] #[.pointer (some ⟨yb, 0, none⟩), .pointer (some ⟨cb, 0, none⟩)]) w →
 Calls Tryz.prog 56 #[.agg #[.int .i64 f, v2], .pointer (some ⟨yb, 0, none⟩), .pointer (some ⟨cb, 0, none⟩)] w (WlkR I ob l m (sizeT (.mk f xs)) w) := by
 induction D with
 | zero => intro f xs v2 m w h; omega
 | succ D ih =>
 intro f xs v2 m w hD hfo hr hB hi hm hy hc
 obtain ⟨A, c, rfl, -, hn, -⟩ := hr.tm_form
 rw [funOk] at hfo
 rw [sizeT] at hm ⊢
 have hyl := ltOf hy
 have hcl := ltOf hc
 obtain ⟨hol, hll⟩ := hI.lt m w hi
 have Hfo := Lh hfo.2
 have hfN := hfo.1
 have HR := Lh hr
 have HI := Lh hI
 have Hi := Lh hi
 have HY := Lh hy
 have HC := Lh hc
 have Hih := Lh ih
 clear hfo hr hI hi hy hc ih
 go_enter Tryz.func56, Tryz.ntmps56
 go_upto_region 1 with fail
 obtain ⟨hx1, hB1, hz1⟩ := boxes1 w (.cells #[.int .i64 f, .slice A xs.length c] 32)
 have hx1 : Box2 w.heap.size 32 (.int .i64 f) (.slice A xs.length c) _ := hx1
 generalize w.alloc (.cells #[.int .i64 f, .slice A xs.length c] 32) = w1 at hx1 hB1 hz1 ⊢
 have hz1l : w.heap.size < w1.heap.size := by omega
 have HX1 := Lh hx1
 have HB1 := Lh hB1
 obtain ⟨q0, q1, -⟩ := hx1.cells
 have hy1 := (HY.out.low hB1).cell
 have Hi1 := Lh (HI.out.low m w w1 Hi.out hB1)
 clear hx1 hB1 hz1
 by_cases hf : f < 0
 · have hf2 : ¬ 0 ≤ f := by omega
   go_wp2_with fail
   have Hi7 := Hi1
   have Hu7 := Lh (Upd.low HB1.out (fun k => k = ob ∨ k = l))
   have hm0 : m + sizeTs xs ≤ m + (1 + sizeTs xs) := by omega
   clear q0 q1 hy1
   go_loopw [20] (fun i wr => ∃ k m' : Nat, k ≤ xs.length ∧ i = .int .i64 k ∧ m' + sizeTs (xs.drop k) ≤ m + (1 + sizeTs xs) ∧ I m' wr ∧ Upd w wr (fun k => k = ob ∨ k = l)) (fun i _ => xs.length - (intOf i).toNat)
   case atStart => exact ⟨0, m, Nat.zero_le _, rfl, by rw [List.drop_zero]; omega, Hi7.out, Hu7.out⟩
   obtain ⟨k, m', hk, rfl, hmk, hir, hur⟩ := hrel
   have hzr := hur.size
   have Hir := Lh hir
   have Hur := Lh hur
   clear hir hur
   by_cases hlt : k < xs.length
   · have hlt2 : ¬ ((xs.length : Int) ≤ (k : Int)) := by omega
     have hrd2 : Rd wr B (.sl 2 (encTms xs)) (.slice A xs.length c) := ((HR.out.rdP hB).upd Hur.out (fun b hb _ e => by have := HI.out.geo; have := HI.out.gel; omega)).rd (fun b hb _ => hb)
     obtain ⟨sb, sq, f1, us, A2, c2, hA, hxk, hsb, k0, k1, hr1⟩ := hrd2.tm_at hlt
     subst hA
     have hsz := sizeTs_mem hlt
     rw [hxk] at hsz
     have hsd : sizeTs (xs.drop k) = sizeT (.mk f1 us) + sizeTs (xs.drop (k + 1)) := by rw [List.drop_eq_getElem_cons hlt, hxk, sizeTs]
     rw [hsd] at hmk
     have hs1 : sizeT (.mk f1 us) = 1 + sizeTs us := by rw [sizeT]; omega
     have hfx := funsOk_mem Hfo.out (List.getElem_mem hlt)
     rw [hxk] at hfx
     have Hfx := Lh hfx
     have Hr1 := Lh hr1
     clear hfx hr1 hrd2 hxk hsd
     go_upto_region 6 with fail
     obtain ⟨hx8, hB8, hz8⟩ := boxes1 wr (.cells #[.int .i64 f1, .slice A2 us.length c2] 32)
     have hx8 : Box2 wr.heap.size 32 (.int .i64 f1) (.slice A2 us.length c2) _ := hx8
     generalize wr.alloc (.cells #[.int .i64 f1, .slice A2 us.length c2] 32) = w8 at hx8 hB8 hz8 ⊢
     have hz8l : wr.heap.size < w8.heap.size := by omega
     obtain ⟨j0, j1, -⟩ := hx8.cells
     have hu8 : Upd w w8 (fun k => k = ob ∨ k = l) := Hur.out.trans (Upd.low hB8 (fun k => k = ob ∨ k = l)) (fun _ e => .inl e)
     have hc8 := (HC.out.upd hu8 (by omega)).cell
     have hcl2 := Hih.out f1 us (.slice A2 us.length c2) m' w8 (by omega) Hfx.out (Hr1.out.low hB8 (by omega)) (by omega) (HI.out.low m' wr w8 Hir.out hB8) (by omega) (HY.out.upd hu8 (by omega)) (HC.out.upd hu8 (by omega))
     have Hcl2 := Lh hcl2
     have Hu8 := Lh hu8
     clear hcl2 hx8 hB8 hz8 hu8 k0 k1 hsz
     go_wp2_with fail
     refine Hcl2.out.mono ?_
     rintro e w9 ⟨m9, rfl, hm9, hi9, hu9⟩
     have Hi9 := Lh hi9
     have Hu9 := Lh (Hu8.out.trans hu9 (fun _ e => .inl e))
     clear hi9 hu9 j0 j1 hc8
     go_wp2_with fail
     go_roundw
     case rel => exact ⟨k + 1, m9, by omega, by go_num, by omega, Hi9.out, Hu9.out⟩
     case measure => simp [intOf]; omega
   go_wp2_with fail
   go_ret
   exact ⟨m', rfl, by omega, Hir.out, Hur.out⟩
 obtain ⟨fi, rfl⟩ : ∃ fi : Nat, f = (fi : Int) := ⟨f.toNat, by omega⟩
 have hf2 : 0 ≤ (fi : Int) := by omega
 obtain ⟨fn, tmps, assign, body, hyr, hR⟩ := HI.out.yok m fi w1 Hi1.out (by omega) (by omega)
 have HRd := Lh hR
 clear hR
 refine (wpIn_wide (n := 4)).1 ?_
 gi_wp2
 refine HRd.out.mono ?_
 rintro e w7 ⟨rfl, hi7, hu7⟩
 have hz7 := hu7.size
 have q7 := (World.cell?_of_block (a := ⟨w.heap.size, 1, none⟩) (hu7.block w.heap.size hz1l (by omega))).trans q1
 have q7 : w7.cell? ⟨w.heap.size, 1, none⟩ = some (.slice A xs.length c) := q7
 have Hi7 := Lh hi7
 have Hu7 := Lh ((Upd.low HB1.out (fun k => k = ob ∨ k = l)).trans hu7 (fun _ e => .inl e))
 clear hi7 hu7 q0 q1 hy1 hyr
 simp only []
 go_at_K
 gi_wp2
 go_wp2_with fail
 clear q7
 go_loopw [20] (fun i wr => ∃ k m' : Nat, k ≤ xs.length ∧ i = .int .i64 k ∧ m' + sizeTs (xs.drop k) ≤ m + (1 + sizeTs xs) ∧ I m' wr ∧ Upd w wr (fun k => k = ob ∨ k = l)) (fun i _ => xs.length - (intOf i).toNat)
 case atStart => exact ⟨0, (m + 1), Nat.zero_le _, rfl, by rw [List.drop_zero]; omega, Hi7.out, Hu7.out⟩
 obtain ⟨k, m', hk, rfl, hmk, hir, hur⟩ := hrel
 have hzr := hur.size
 have Hir := Lh hir
 have Hur := Lh hur
 clear hir hur
 by_cases hlt : k < xs.length
 · have hlt2 : ¬ ((xs.length : Int) ≤ (k : Int)) := by omega
   have hrd2 : Rd wr B (.sl 2 (encTms xs)) (.slice A xs.length c) := ((HR.out.rdP hB).upd Hur.out (fun b hb _ e => by have := HI.out.geo; have := HI.out.gel; omega)).rd (fun b hb _ => hb)
   obtain ⟨sb, sq, f1, us, A2, c2, hA, hxk, hsb, k0, k1, hr1⟩ := hrd2.tm_at hlt
   subst hA
   have hsz := sizeTs_mem hlt
   rw [hxk] at hsz
   have hsd : sizeTs (xs.drop k) = sizeT (.mk f1 us) + sizeTs (xs.drop (k + 1)) := by rw [List.drop_eq_getElem_cons hlt, hxk, sizeTs]
   rw [hsd] at hmk
   have hs1 : sizeT (.mk f1 us) = 1 + sizeTs us := by rw [sizeT]; omega
   have hfx := funsOk_mem Hfo.out (List.getElem_mem hlt)
   rw [hxk] at hfx
   have Hfx := Lh hfx
   have Hr1 := Lh hr1
   clear hfx hr1 hrd2 hxk hsd
   go_upto_region 6 with fail
   obtain ⟨hx8, hB8, hz8⟩ := boxes1 wr (.cells #[.int .i64 f1, .slice A2 us.length c2] 32)
   have hx8 : Box2 wr.heap.size 32 (.int .i64 f1) (.slice A2 us.length c2) _ := hx8
   generalize wr.alloc (.cells #[.int .i64 f1, .slice A2 us.length c2] 32) = w8 at hx8 hB8 hz8 ⊢
   have hz8l : wr.heap.size < w8.heap.size := by omega
   obtain ⟨j0, j1, -⟩ := hx8.cells
   have hu8 : Upd w w8 (fun k => k = ob ∨ k = l) := Hur.out.trans (Upd.low hB8 (fun k => k = ob ∨ k = l)) (fun _ e => .inl e)
   have hc8 := (HC.out.upd hu8 (by omega)).cell
   have hcl2 := Hih.out f1 us (.slice A2 us.length c2) m' w8 (by omega) Hfx.out (Hr1.out.low hB8 (by omega)) (by omega) (HI.out.low m' wr w8 Hir.out hB8) (by omega) (HY.out.upd hu8 (by omega)) (HC.out.upd hu8 (by omega))
   have Hcl2 := Lh hcl2
   have Hu8 := Lh hu8
   clear hcl2 hx8 hB8 hz8 hu8 k0 k1 hsz
   go_wp2_with fail
   refine Hcl2.out.mono ?_
   rintro e w9 ⟨m9, rfl, hm9, hi9, hu9⟩
   have Hi9 := Lh hi9
   have Hu9 := Lh (Hu8.out.trans hu9 (fun _ e => .inl e))
   clear hi9 hu9 j0 j1 hc8
   go_wp2_with fail
   go_roundw
   case rel => exact ⟨k + 1, m9, by omega, by go_num, by omega, Hi9.out, Hu9.out⟩
   case measure => simp [intOf]; omega
 go_wp2_with fail
 go_ret
 exact ⟨m', rfl, by omega, Hir.out, Hur.out⟩
def sizL : Cl → Nat
 | [] => 0
 | x :: xs => sizeT x.l + sizeT x.r + sizL xs
def sizCs : List Cl → Nat
 | [] => 0
 | c :: cs => sizL c + sizCs cs
def clsOk (N : Nat) (cs : List Cl) : Prop := ∀ c ∈ cs, ∀ x ∈ c, funOk N x.l ∧ funOk N x.r
theorem syRd {B l ob N : Nat} {I : Nat → World → Prop} (hI : YdI N B l ob I) {w w' : World} {t : Tr} {v : Value} (h : Rd w B t v) (hB : B ≤ w.heap.size) (hu : Upd w w' (fun k => k = ob ∨ k = l)) : Rd w' B t v :=
 ((h.rdP hB).upd hu (fun b hb _ e => by have := hI.geo; have := hI.gel; omega)).rd (fun b hb _ => hb)
theorem symbols1_any (N B l ob clb : Nat) (I : Nat → World → Prop) (hI : YdI N B l ob I) (cs : List Cl) (vc : Value) (w : World) (hok : clsOk N cs) (hr : Rd w B (encCls cs) vc) (hB : B ≤ w.heap.size) (hi : I 0 w) (hz : sizCs cs ≤ 300000000) (hcb : Box1 clb 25 vc w) (hlo : clb ≠ ob ∧ clb ≠ l) :
 Calls Tryz.prog 55 #[.func (.yield l) #[] #[], .pointer (some ⟨clb, 0, none⟩)] w (fun e w' => ∃ m', e = .returned (.tuple #[]) ∧ m' ≤ sizCs cs ∧ I m' w' ∧ Upd w w' (fun k => k = ob ∨ k = l)) := by
 obtain ⟨A, c, rfl, -, hn, -⟩ := Rd.row_form hr
 obtain ⟨hol, hll⟩ := hI.lt 0 w hi
 have hcl := ltOf hcb
 have Hok := Lh hok
 have HR := Lh hr
 have HI := Lh hI
 have Hi := Lh hi
 have HCB := Lh hcb
 clear hok hr hI hi hcb
 go_enter Tryz.func55, Tryz.ntmps55
 go_upto_region 3 with fail
 obtain ⟨hx1, hx2, hB2, hz2⟩ := boxes2 w (.cells #[.func (.yield l) #[] #[]] 99) (.cells #[.func (.func 56) #[] #[.pointer (some ⟨w.heap.size, 0, none⟩), .pointer (some ⟨w.heap.size + 1, 0, none⟩)]] 100)
 have hx1 : Box1 w.heap.size 99 (.func (.yield l) #[] #[]) _ := hx1
 have hx2 : Box1 (w.heap.size + 1) 100 (.func (.func 56) #[] #[.pointer (some ⟨w.heap.size, 0, none⟩), .pointer (some ⟨w.heap.size + 1, 0, none⟩)]) _ := hx2
 generalize (w.alloc (.cells #[.func (.yield l) #[] #[]] 99)).alloc (.cells #[.func (.func 56) #[] #[.pointer (some ⟨w.heap.size, 0, none⟩), .pointer (some ⟨w.heap.size + 1, 0, none⟩)]] 100) = w2 at hx1 hx2 hB2 hz2 ⊢
 have hz2l : w.heap.size + 1 < w2.heap.size := by omega
 have HX1 := Lh hx1
 have HX2 := Lh hx2
 have HB2 := Lh hB2
 have Hi2 := Lh (HI.out.low 0 w w2 Hi.out hB2)
 have q0 := (HCB.out.low hB2).cell
 clear hx1 hx2 hB2 hz2
 go_wp2_with fail
 clear q0
 go_loopw [11] (fun i wr => ∃ k m' : Nat, k ≤ cs.length ∧ i = .int .i64 k ∧ m' + sizCs (cs.drop k) ≤ sizCs cs ∧ I m' wr ∧ Upd w2 wr (fun k => k = ob ∨ k = l)) (fun i _ => cs.length - (intOf i).toNat)
 case atStart => exact ⟨0, 0, Nat.zero_le _, rfl, by rw [List.drop_zero]; omega, Hi2.out, Upd.refl _ _⟩
 obtain ⟨k, m', hk, rfl, hmk, hir, hur⟩ := hrel
 have hzr := hur.size
 have Hir := Lh hir
 have Hur := Lh hur
 have Hu0 := Lh ((Upd.low HB2.out (fun k => k = ob ∨ k = l)).trans hur (fun _ e => .inl e))
 clear hir hur
 by_cases hlt : k < cs.length
 · have hlt2 : ¬ ((cs.length : Int) ≤ (k : Int)) := by omega
   obtain ⟨ab, off, A2, c2, hA, hab, c0, hrc⟩ := HR.out.cl_at hlt
   subst hA
   have hge := HI.out.geo
   have hgl := HI.out.gel
   have c0 : wr.cell? ⟨ab, off + k, none⟩ = some (.slice A2 cs[k].length c2) := (World.cell?_of_block (a := ⟨ab, off + k, none⟩) (Hu0.out.block ab (by omega) (by omega))).trans c0
   have hsd : sizCs (cs.drop k) = sizL cs[k] + sizCs (cs.drop (k + 1)) := by rw [List.drop_eq_getElem_cons hlt, sizCs]
   rw [hsd] at hmk
   have hokc := Hok.out _ (List.getElem_mem hlt)
   generalize cs[k] = cc at c0 hrc hmk hokc hsd
   have Hrc := Lh hrc
   have Hokc := Lh hokc
   have hReach := fun (w' : World) (hu : Upd w w' (fun k => k = ob ∨ k = l)) => syRd HI.out hrc hB hu
   obtain ⟨_, _, hvv, -, hcn, -⟩ := Rd.cl_form hrc
   clear hrc hokc hsd hvv
   go_wp2_with fail
   clear c0
   obtain ⟨wo, rfl⟩ : ∃ wo : World, wo = wr := ⟨_, rfl⟩
   go_loopw [17] (fun i wj => ∃ j mj : Nat, j ≤ cc.length ∧ i = .int .i64 j ∧ mj + sizL (cc.drop j) + sizCs (cs.drop (k + 1)) ≤ sizCs cs ∧ I mj wj ∧ Upd w2 wj (fun k => k = ob ∨ k = l)) (fun i _ => cc.length - (intOf i).toNat)
   case atStart => exact ⟨0, m', Nat.zero_le _, rfl, by rw [List.drop_zero]; omega, Hir.out, Hur.out⟩
   obtain ⟨j, mj, hj, rfl, hmj, hij, huj⟩ := hrel
   have hzj := huj.size
   have Hij := Lh hij
   have Huj := Lh huj
   have Huj0 := Lh ((Upd.low HB2.out (fun k => k = ob ∨ k = l)).trans huj (fun _ e => .inl e))
   clear hij huj
   by_cases hlj : j < cc.length
   · have hlj2 : ¬ ((cc.length : Int) ≤ (j : Int)) := by omega
     have hrj : Rd wr B (encCl cc) (.slice A2 cc.length c2) := hReach wr Huj0.out
     obtain ⟨lb, lq, b, f1, ys1, A3, c3, f2, ys2, A4, c4, hA3, hxj, hlb, d0, d1, d2, d3, d4, hr1, hr2⟩ := hrj.lt_at hlj
     subst hA3
     have hsj : sizL (cc.drop j) = sizeT (.mk f1 ys1) + sizeT (.mk f2 ys2) + sizL (cc.drop (j + 1)) := by rw [List.drop_eq_getElem_cons hlj, sizL, hxj]
     rw [hsj] at hmj
     have hokx := Hokc.out _ (List.getElem_mem hlj)
     rw [hxj] at hokx
     have Hokx := Lh hokx
     have Hr1 := Lh hr1
     have Hr2 := Lh hr2
     clear hokx hr1 hr2 hsj hxj hrj
     go_upto_region 9 with fail
     have hx8 := heap_alloc_new wr (.cells #[.bool b, .int .i64 f1, .slice A3 ys1.length c3, .int .i64 f2, .slice A4 ys2.length c4] 78)
     have hx8 : BoxN wr.heap.size 78 #[.bool b, .int .i64 f1, .slice A3 ys1.length c3, .int .i64 f2, .slice A4 ys2.length c4] _ := hx8
     have hB8 := below_box wr (.cells #[.bool b, .int .i64 f1, .slice A3 ys1.length c3, .int .i64 f2, .slice A4 ys2.length c4] 78)
     have hz8 : wr.heap.size < (wr.alloc (.cells #[.bool b, .int .i64 f1, .slice A3 ys1.length c3, .int .i64 f2, .slice A4 ys2.length c4] 78)).heap.size := by simp
     generalize wr.alloc (.cells #[.bool b, .int .i64 f1, .slice A3 ys1.length c3, .int .i64 f2, .slice A4 ys2.length c4] 78) = w8 at hx8 hB8 hz8 ⊢
     have hu8 : Upd w2 w8 (fun k => k = ob ∨ k = l) := Huj.out.trans (Upd.low hB8 (fun k => k = ob ∨ k = l)) (fun _ e => .inl e)
     have e1 : w8.cell? ⟨wr.heap.size, 1, none⟩ = some (.int .i64 f1) := hx8.cell 1
     have e2 : w8.cell? ⟨wr.heap.size, 2, none⟩ = some (.slice A3 ys1.length c3) := hx8.cell 2
     have hc8 := (HX2.out.upd hu8 (by omega)).cell
     have hcl2 := walk56_any N B l ob w.heap.size (w.heap.size + 1) I HI.out (by omega) (by omega) (sizeTs ys1 + 1) f1 ys1 (.slice A3 ys1.length c3) mj w8 (Nat.lt_succ_self _) Hokx.out.1 (Hr1.out.low hB8 (by omega)) (by omega) (HI.out.low mj wr w8 Hij.out hB8) (by omega) (HX1.out.upd hu8 (by omega)) (HX2.out.upd hu8 (by omega))
     have Hcl2 := Lh hcl2
     have Hx8 := Lh hx8
     have Hu8 := Lh hu8
     have HB8 := Lh hB8
     clear hcl2 hx8 hu8 hB8 d0 d1 d2 d3 d4
     go_wp2_with fail
     refine Hcl2.out.mono ?_
     rintro e w9 ⟨m9, rfl, hm9, hi9, hu9⟩
     have hz9 := hu9.size
     have hx9 := Hx8.out.upd hu9 (by omega)
     have e3 : w9.cell? ⟨wr.heap.size, 3, none⟩ = some (.int .i64 f2) := hx9.cell 3
     have e4 : w9.cell? ⟨wr.heap.size, 4, none⟩ = some (.slice A4 ys2.length c4) := hx9.cell 4
     have hu90 := Hu8.out.trans hu9 (fun _ e => .inl e)
     have Hi9 := Lh hi9
     have Hu9 := Lh hu90
     have hc9 := (HX2.out.upd hu90 (by omega)).cell
     have hs2 : 0 < sizeT (.mk f2 ys2) := sizeT_pos _
     by_cases hf2 : f2 = 0
     · have hnb : (f2 != 0) = false := by rw [hf2]; rfl
       clear e1 e2 hc8 hi9 hu9 hx9 hu90 hf2 e4 hc9
       go_wp2_with fail
       go_roundw
       case rel => exact ⟨j + 1, m9, by omega, by go_num, by omega, Hi9.out, Hu9.out⟩
       case measure => simp [intOf]; omega
     have hnb : (f2 != 0) = true := by rw [bne_iff_ne]; exact hf2
     have hr2 := syRd HI.out (Hr2.out.low HB8.out (by omega)) (by omega) hu9
     have hcl3 := walk56_any N B l ob w.heap.size (w.heap.size + 1) I HI.out (by omega) (by omega) (sizeTs ys2 + 1) f2 ys2 (.slice A4 ys2.length c4) m9 w9 (Nat.lt_succ_self _) Hokx.out.2 hr2 (by omega) hi9 (by omega) (HX1.out.upd hu90 (by omega)) (HX2.out.upd hu90 (by omega))
     have Hcl3 := Lh hcl3
     clear hcl3 hr2 e1 e2 hc8 hi9 hu9 hx9 hu90 hf2
     go_wp2_with fail
     refine Hcl3.out.mono ?_
     rintro e w10 ⟨m10, rfl, hm10, hi10, hu10⟩
     have Hi10 := Lh hi10
     have Hu10 := Lh (Hu9.out.trans hu10 (fun _ e => .inl e))
     clear hi10 hu10 e3 e4 hc9
     go_wp2_with fail
     go_roundw
     case rel => exact ⟨j + 1, m10, by omega, by go_num, by omega, Hi10.out, Hu10.out⟩
     case measure => simp [intOf]; omega
   have hfin : mj + sizCs (cs.drop (k + 1)) ≤ sizCs cs := by omega
   go_wp2_with fail
   go_roundw
   case rel => exact ⟨k + 1, mj, by omega, by go_num, hfin, Hij.out, Huj.out⟩
   case measure => simp [intOf]; omega
 have hfin : m' ≤ sizCs cs := by omega
 go_wp2_with fail
 go_end0
 exact ⟨m', rfl, hfin, Hir.out, Hu0.out⟩
theorem make_rowN {t e : TypeId} {z : Value} {bytes : Nat} (w : World) (N : Nat) (hN : N ≤ 1100000) (hu : Tryz.prog.underlying t = some (.slice e)) (h : (Tryz.prog.info? e).map (fun i => (i.zero, i.size, i.bytes)) = some (some z, 1, bytes)) (hb : bytes ≤ 8) (h1 : z.cells = #[z]) :
 ∃ w', (Instr.makeSlice t (.int .i64 (N : Nat)) (.int .i64 (N : Nat))).run Tryz.prog w = .ok (.slice (some ⟨w.heap.size, 0, none⟩) N N) w' ∧ Own w' w.heap.size e 1 (.slice (some ⟨w.heap.size, 0, none⟩) N N) ((List.replicate N z).map fun u => [u]) ∧ Below w.heap.size w w' := by
 cases hi : Tryz.prog.info? e with
 | none => rw [hi] at h; cases h
 | some i =>
   rw [hi] at h
   have h : (i.zero, i.size, i.bytes) = (some z, 1, bytes) := Option.some.inj h
   injection h with hz h
   injection h with hs hby
   obtain ⟨w', g1, g2, g3⟩ := run_makeSlice_full (P := Tryz.prog) w w.heap.size t e i z 1 hu hi hz hs .i64 .i64 N (by omega) (by rw [hby]; have : bytes * N ≤ 8 * N := Nat.mul_le_mul_right _ hb; omega) (by unfold maxLen; omega) (Nat.le_refl _)
   refine ⟨w', g1, ⟨?_, by intro r hr; obtain ⟨u', _, rfl⟩ := List.mem_map.1 hr; rfl⟩, ?_⟩
   · have hfl : ∀ l : List Value, (l.map fun u => [u]).flatten = l := fun l => by induction l with | nil => rfl | cons a l ih => simp [ih]
     rw [List.length_map, hfl, List.length_replicate]
     rw [h1, toList_madeCells_one, Nat.mul_one] at g2
     exact g2
   exact ⟨(Upd.grown g3).os, (Upd.grown g3).tape, (Upd.grown g3).output, (Upd.grown g3).size, fun k hk => (Upd.grown g3).block k hk (fun e => by cases e)⟩
theorem make_ints (w : World) (N : Nat) (hN : N ≤ 1100000) : ∃ w', (Instr.makeSlice 36 (.int .i64 (N : Nat)) (.int .i64 (N : Nat))).run Tryz.prog w = .ok (.slice (some ⟨w.heap.size, 0, none⟩) N N) w' ∧ Own w' w.heap.size 3 1 (.slice (some ⟨w.heap.size, 0, none⟩) N N) (icells (List.replicate N 0)) ∧ Below w.heap.size w w' := by
 obtain ⟨w', h1, h2, h3⟩ := make_rowN (z := .int .i64 0) (bytes := 8) w N hN Tryz.underlying36 (by kernel_rfl) (by omega) rfl
 refine ⟨w', h1, ?_, h3⟩
 have e : icells (List.replicate N (0 : Int)) = (List.replicate N (Value.int .i64 0)).map fun u => [u] := by simp [icells]
 rw [e]
 exact h2
theorem symbols30_any (A : Option Addr) (n c : Nat) (w : World) : Calls Tryz.prog 30 #[.slice A n c] w (fun e w' => e = .returned (.func (.func 55) #[] #[.pointer (some ⟨w.heap.size, 0, none⟩)]) ∧ Below w.heap.size w w' ∧ Box1 w.heap.size 25 (.slice A n c) w') := by
 have hx := heap_alloc_new w (.cells #[.slice A n c] 25)
 have hx : Box1 w.heap.size 25 (.slice A n c) _ := hx
 have hb := below_box w (.cells #[.slice A n c] 25)
 have HX := Lh hx
 have HB := Lh hb
 clear hx hb
 go_enter Tryz.func30, Tryz.ntmps30
 go_wp2_with fail
 go_ret
 exact ⟨rfl, HB.out, HX.out⟩
theorem clsOk_take {N : Nat} {cs : List Cl} {k : Nat} (hk : k < cs.length) (h : clsOk N (cs.take k)) (h' : ∀ x ∈ cs[k], funOk N x.l ∧ funOk N x.r) : clsOk N (cs.take (k + 1)) := by
 intro d hd
 rw [List.take_succ_eq_append_getElem hk] at hd
 rcases List.mem_append.1 hd with hd | hd
 · exact h d hd
 rw [List.mem_singleton.1 hd]; exact h'
theorem clOk_take {N : Nat} {c : Cl} {k : Nat} (hk : k < c.length) (h : ∀ x ∈ c.take k, funOk N x.l ∧ funOk N x.r) (h' : funOk N c[k].l ∧ funOk N c[k].r) : ∀ x ∈ c.take (k + 1), funOk N x.l ∧ funOk N x.r := by
 intro d hd
 rw [List.take_succ_eq_append_getElem hk] at hd
 rcases List.mem_append.1 hd with hd | hd
 · exact h d hd
 rw [List.mem_singleton.1 hd]; exact h'
theorem Upd.putObj {a b : World} {F : Nat → Prop} (h : Upd a b F) (l : Nat) (o : Obj) (hl : F l ∨ a.heap.size ≤ l) : Upd a (b.putObj l o) F :=
 ⟨h.os, h.tape, h.output, by rw [World.putObj_size]; exact h.size, fun k hk hf => (World.putObj_heap_other (fun e => by subst e; rcases hl with h1 | h1; exact hf h1; omega)).trans (h.block k hk hf)⟩
theorem endM_nil {F : Fence} {n : Nat} {P : Program} {fn : Func} {R : Ending → World → Prop} {a : Act} {w : World} {v : Value} (hr : (results fn a.tmps).run P w = .ok v w) (hd : a.defers = []) (hR : R (.returned v) w) :
 bodyPostM F n P fn R .ret a w := by
 show LeavesInM F n P fn a.tmps R a.defers .returning w
 rw [hd]
 exact ⟨v, hr, hR⟩
def CouR (sig : List Sy) (N : Nat) (cs : List Cl) (w : World) (e : Ending) (w' : World) : Prop :=
 Below w.heap.size w w' ∧ ((∃ (v : Value) (n : Int), e = .returned (.tuple #[v, .int .i64 n]) ∧ n ≠ 0 ∧ (SigP sig → cs ≠ [])) ∨
  (0 < N ∧ N ≤ 96 ∧ clsOk N cs ∧ ∃ (kb : Nat) (l : List Int), e = .returned (.tuple #[.slice (some ⟨kb, 0, none⟩) N N, .int .i64 0]) ∧ w.heap.size ≤ kb ∧ l.length = N ∧ (∀ x ∈ l, 0 ≤ x ∧ x ≤ (sizCs cs : Int)) ∧
    Own w' kb 3 1 (.slice (some ⟨kb, 0, none⟩) N N) (icells l)))
def CntI (N kb xb l : Nat) (rec0 : Loop) (m : Nat) (W : World) : Prop :=
 ∃ ls : List Int, ls.length = N ∧ (∀ x ∈ ls, 0 ≤ x ∧ x ≤ (m : Int)) ∧ Own W kb 3 1 (.slice (some ⟨kb, 0, none⟩) N N) (icells ls) ∧ Box1 xb 36 (.slice (some ⟨kb, 0, none⟩) N N) W ∧ W.heap[l]? = some (.loop rec0)
theorem CntI.lt {N kb xb l m : Nat} {rec0 : Loop} {W : World} (h : CntI N kb xb l rec0 m W) : kb < W.heap.size ∧ l < W.heap.size ∧ xb < W.heap.size := by
 obtain ⟨ls, h1, h2, h3, h4, h5⟩ := h
 exact ⟨(h3.lt kb rfl).2, ltOf h5, ltOf h4⟩
theorem CntI.low {N kb xb l m : Nat} {rec0 : Loop} {W W' : World} (h : CntI N kb xb l rec0 m W) (hb : Below W.heap.size W W') : CntI N kb xb l rec0 m W' := by
 have hl := h.lt.2.1
 obtain ⟨ls, h1, h2, h3, h4, h5⟩ := h
 exact ⟨ls, h1, h2, h3.low hb, h4.low hb, (hb.block l hl).trans h5⟩
theorem counts15_any (sig : List Sy) (A : Option Addr) (cs0 : Nat) (cs : List Cl) (vc : Value) (B : Nat) (w : World) (hs : Rd w B (encSig sig) (.slice A sig.length cs0)) (hlen : sig.length ≤ 1100000) (hr : Rd w B (encCls cs) vc) (hB : B ≤ w.heap.size) (hz : sizCs cs ≤ 300000000) :
 Calls Tryz.prog 15 #[.agg #[.slice A sig.length cs0], vc] w (CouR sig sig.length cs w) := by
 obtain ⟨A1, c1, rfl, -, hn, -⟩ := Rd.row_form hr
 have HS := Lh hs
 have HR := Lh hr
 have hck := fun (w' : World) (hb : Below w.heap.size w w') => check28_any sig A cs0 B w' (hs.low hb hB) (by have := hb.size; omega) hlen
 have Hck := Lh hck
 have hct := fun (f : Int) (xs : List Tm) (v2 : Value) (w' : World) (hb : Below w.heap.size w w') (hx : Rd w' B (.sl 2 (encTms xs)) v2) => check29_any sig A cs0 f xs v2 B w' (hs.low hb hB) hlen hx (by have := hb.size; omega)
 have Hct := Lh hct
 clear hs hr hck hct
 refine (callsIn_wide (n := 5)).1 (callsIn_of_wp_marks Tryz.func15 rfl trivial (wpIn_wide.2 ?_))
 simp only [Tryz.ntmps15, List.size_toArray, List.length_cons, List.length_nil, Nat.reduceAdd, Nat.reduceSub, Array.replicate_succ, Array.replicate_zero, List.push_toArray, List.append_toArray, List.nil_append, List.cons_append]
 go_upto_region 1 with fail
 obtain ⟨hx1, hB1, hz1⟩ := boxes1 w (.cells #[.slice A sig.length cs0] 24)
 have hx1 : Box1 w.heap.size 24 (.slice A sig.length cs0) _ := hx1
 generalize w.alloc (.cells #[.slice A sig.length cs0] 24) = w1 at hx1 hB1 hz1 ⊢
 have HX1 := Lh hx1
 have HB1 := Lh hB1
 have hz1l : w.heap.size < w1.heap.size := by omega
 have q1 := hx1.cell
 clear hx1 hB1 hz1
 go_wp2_with fail
 refine (Hck.out w1 HB1.out).mono ?_
 rintro e w2 ⟨n, rfl, hsg, hn0, hb2⟩
 have Hsg := Lh hsg
 clear hsg
 have HB2 := Lh (HB1.out.trans (hb2.mono (by omega)))
 have HX2 := Lh (HX1.out.low hb2)
 have hz2 := hb2.size
 clear hb2 q1
 by_cases h0 : n = 0
 · have hnb : (n != 0) = false := by rw [h0]; rfl
   obtain ⟨hN1, hN2⟩ := hn0 h0
   clear h0 hn0
   go_wp2_with fail
   have hN0 : ((sig.length : Nat) : Int) = sig.length := rfl
   go_loopw [17] (fun i wr => ∃ k : Nat, k ≤ cs.length ∧ i = .int .i64 k ∧ clsOk sig.length (cs.take k) ∧ Below w2.heap.size w2 wr) (fun i _ => cs.length - (intOf i).toNat)
   case atStart => exact ⟨0, Nat.zero_le _, rfl, fun c hc => by simp at hc, Below.refl _ _⟩
   obtain ⟨k, hk, rfl, hok, hbel⟩ := hrel
   have hzr := hbel.size
   have Hok := Lh hok
   have Hbel := Lh hbel
   have Hb0 := Lh (HB2.out.trans (hbel.mono (by have := HB2.out.size; omega)))
   clear hok hbel
   by_cases hlt : k < cs.length
   · have hlt2 : ¬ ((cs.length : Int) ≤ (k : Int)) := by omega
     obtain ⟨ab, off, A2, c2, hA, hab, c0, hrc⟩ := (HR.out.low Hb0.out hB).cl_at hlt
     subst hA
     have hstep := clsOk_take hlt Hok.out
     generalize cs[k] = cc at c0 hrc hstep
     have Hstep := Lh hstep
     have Hrc := Lh hrc
     obtain ⟨_, _, hvv, -, hcn, -⟩ := Rd.cl_form hrc
     clear hstep hrc hvv hN0
     go_wp2_with fail
     clear c0
     obtain ⟨wo, rfl⟩ : ∃ wo : World, wo = wr := ⟨_, rfl⟩
     go_loopw [23] (fun i wj => ∃ j : Nat, j ≤ cc.length ∧ i = .int .i64 j ∧ (∀ x ∈ cc.take j, funOk sig.length x.l ∧ funOk sig.length x.r) ∧ Below wo.heap.size wo wj) (fun i _ => cc.length - (intOf i).toNat)
     case atStart => exact ⟨0, Nat.zero_le _, rfl, fun c hc => by simp at hc, Below.refl _ _⟩
     obtain ⟨j, hj, rfl, hokj, hbj⟩ := hrel
     have hzj := hbj.size
     have Hokj := Lh hokj
     have Hbj := Lh hbj
     have hzw2 := HB2.out.size
     by_cases hlj : j < cc.length
     · have hlj2 : ¬ ((cc.length : Int) ≤ (j : Int)) := by omega
       obtain ⟨lb, lq, b, f1, ys1, A3, c3, f2, ys2, A4, c4, hA3, hxj, hlb, d0, d1, d2, d3, d4, hr1, hr2⟩ := (Hrc.out.low hbj (by omega)).lt_at hlj
       subst hA3
       have hstj := clOk_take hlj Hokj.out
       rw [hxj] at hstj
       have Hstj := Lh hstj
       have Hr1 := Lh hr1
       have Hr2 := Lh hr2
       clear hr1 hr2 hxj hstj hokj hbj
       go_upto_region 9 with fail
       have hx8 := heap_alloc_new wr (.cells #[.bool b, .int .i64 f1, .slice A3 ys1.length c3, .int .i64 f2, .slice A4 ys2.length c4] 78)
       have hx8 : BoxN wr.heap.size 78 #[.bool b, .int .i64 f1, .slice A3 ys1.length c3, .int .i64 f2, .slice A4 ys2.length c4] _ := hx8
       have hB8 := below_box wr (.cells #[.bool b, .int .i64 f1, .slice A3 ys1.length c3, .int .i64 f2, .slice A4 ys2.length c4] 78)
       have hz8 : wr.heap.size < (wr.alloc (.cells #[.bool b, .int .i64 f1, .slice A3 ys1.length c3, .int .i64 f2, .slice A4 ys2.length c4] 78)).heap.size := by simp
       generalize wr.alloc (.cells #[.bool b, .int .i64 f1, .slice A3 ys1.length c3, .int .i64 f2, .slice A4 ys2.length c4] 78) = w8 at hx8 hB8 hz8 ⊢
       have Hb8 := Lh (Hbj.out.trans (hB8.mono (by omega)))
       have e1 : w8.cell? ⟨wr.heap.size, 1, none⟩ = some (.int .i64 f1) := hx8.cell 1
       have e2 : w8.cell? ⟨wr.heap.size, 2, none⟩ = some (.slice A3 ys1.length c3) := hx8.cell 2
       have q8 := (HX2.out.low (Hbel.out.trans (Hb8.out.mono hzr))).cell
       have Hx8 := Lh hx8
       have HB8 := Lh hB8
       clear hx8 hB8 d0 d1 d2 d3 d4
       go_wp2_with fail
       refine (Hct.out f1 ys1 _ w8 (Hb0.out.trans (Hb8.out.mono (by omega))) (Hr1.out.low HB8.out (by omega))).mono ?_
       rintro e w9 ⟨n9, rfl, hn9, hb9⟩
       have hz9 := hb9.size
       have e3 : w9.cell? ⟨wr.heap.size, 3, none⟩ = some (.int .i64 f2) := (Hx8.out.low hb9).cell 3
       have e4 : w9.cell? ⟨wr.heap.size, 4, none⟩ = some (.slice A4 ys2.length c4) := (Hx8.out.low hb9).cell 4
       have Hb9 := Lh (Hb8.out.trans (hb9.mono (by omega)))
       have q9 := (HX2.out.low (Hbel.out.trans (Hb9.out.mono hzr))).cell
       have Hr29 := Lh (Hr2.out.low (HB8.out.trans (hb9.mono (by omega))) (by omega))
       clear e1 e2 q8 hb9
       by_cases h9 : n9 = 0
       · have hnb9 : (n9 != 0) = false := by rw [h9]; rfl
         have Hf1 := Lh (hn9 h9)
         clear h9 hn9
         go_wp2_with fail
         refine (Hct.out f2 ys2 _ w9 (Hb0.out.trans (Hb9.out.mono (by omega))) Hr29.out).mono ?_
         rintro e w10 ⟨n10, rfl, hn10, hb10⟩
         have hz10 := hb10.size
         have Hb10 := Lh (Hb9.out.trans (hb10.mono (by omega)))
         clear e3 e4 q9 hb10
         by_cases h10 : n10 = 0
         · have hnb10 : (n10 != 0) = false := by rw [h10]; rfl
           have Hf2 := Lh (hn10 h10)
           clear h10 hn10
           go_wp2_with fail
           go_roundw
           case rel => exact ⟨j + 1, by omega, by go_num, Hstj.out ⟨Hf1.out, Hf2.out⟩, Hb10.out⟩
           case measure => simp [intOf]; omega
         have hnb10 : (n10 != 0) = true := by rw [bne_iff_ne]; exact h10
         clear h10 hn10
         go_wp2_with fail
         exact endM_nil (results_tmp2 rfl _ _ _) rfl ⟨Hb0.out.trans (Hb10.out.mono (by omega)), .inl ⟨.slice none 0 0, 2, rfl, by decide, fun _ e => by rw [e] at hlt; simp at hlt⟩⟩
       have hnb9 : (n9 != 0) = true := by rw [bne_iff_ne]; exact h9
       clear h9 hn9
       go_wp2_with fail
       exact endM_nil (results_tmp2 rfl _ _ _) rfl ⟨Hb0.out.trans (Hb9.out.mono (by omega)), .inl ⟨.slice none 0 0, 2, rfl, by decide, fun _ e => by rw [e] at hlt; simp at hlt⟩⟩
     have hjj : j = cc.length := by omega
     have hokc := Hokj.out
     rw [hjj, List.take_length] at hokc
     have Hnew := Lh (Hstep.out hokc)
     clear hokc hjj hokj hbj
     go_wp2_with fail
     go_roundw
     case rel => exact ⟨k + 1, by omega, by go_num, Hnew.out, Hbel.out.trans (Hbj.out.mono (by omega))⟩
     case measure => simp [intOf]; omega
   have hkk : k = cs.length := by omega
   have hokc := Hok.out
   rw [hkk, List.take_length] at hokc
   have Hokc := Lh hokc
   clear hokc hkk hN0
   have q13 := (HX2.out.low Hbel.out).cell
   go_upto_region 13 with fail
   obtain ⟨w4, hmk, hown4, hb4⟩ := make_ints wr sig.length hlen
   have hz4 := hb4.size
   have hlw4 := (hown4.lt wr.heap.size rfl).2
   go_upto_region 14 with fail
   have hx5 := heap_alloc_new w4 (.cells #[.slice (some ⟨wr.heap.size, 0, none⟩) sig.length sig.length] 36)
   have hx5 : Box1 w4.heap.size 36 (.slice (some ⟨wr.heap.size, 0, none⟩) sig.length sig.length) _ := hx5
   have hB5 := below_box w4 (.cells #[.slice (some ⟨wr.heap.size, 0, none⟩) sig.length sig.length] 36)
   have hz5 : w4.heap.size < (w4.alloc (.cells #[.slice (some ⟨wr.heap.size, 0, none⟩) sig.length sig.length] 36)).heap.size := by simp
   generalize w4.alloc (.cells #[.slice (some ⟨wr.heap.size, 0, none⟩) sig.length sig.length] 36) = w5 at hx5 hB5 hz5 ⊢
   have HO5 := Lh ((hown4.base_le (base' := wr.heap.size) (Nat.le_refl _)).low hB5)
   have HX5 := Lh hx5
   have HB5 := Lh (hb4.trans (hB5.mono hz4))
   clear hx5 hB5 hown4 hb4 hmk q13
   go_wp2_with fail
   refine (symbols30_any A1 cs.length c1 w5).mono ?_
   rintro e w6 ⟨rfl, hb6, hx6⟩
   have hz6 := hb6.size
   have HO6 := Lh (HO5.out.low hb6)
   have HX6 := Lh (HX5.out.low hb6)
   have HB6 := Lh (HB5.out.trans (hb6.mono (by omega)))
   have HC6 := Lh hx6
   have hc6 := ltOf hx6
   obtain ⟨cb, hcb⟩ : ∃ cb, w5.heap.size = cb := ⟨_, rfl⟩
   rw [hcb] at HC6 hc6 ⊢
   obtain ⟨kb, hkb⟩ : ∃ kb, wr.heap.size = kb := ⟨_, rfl⟩
   rw [hkb] at HO6 HX6 HB6 hz4 hlw4 ⊢
   obtain ⟨xb, hxb⟩ : ∃ xb, w4.heap.size = xb := ⟨_, rfl⟩
   rw [hxb] at HX6 hz4 hlw4 hz5 ⊢
   clear hb6 hx6 HO5 HX5 HB5
   go_wp2_with fail
   refine wpIn_wide.1 (wpIn_rangeFunc (F := Fence.wide) (n := 5) ?_)
   intro fn _
   generalize hrec : ({ state := .ready, pending := none, fn := fn, tmps := _, params := #[47], assign := _, body := _, defers := w6.heap.size } : Loop) = rec0
   obtain ⟨lp, hlp⟩ : ∃ lp, w6.heap.size + 1 = lp := ⟨_, rfl⟩
   refine ⟨w6.heap.size + 1, [{ target := .collected w6.heap.size, args := #[] }], (w6.alloc (.deferred (some []))).alloc (.loop rec0), { target := .fn (.func 55) #[.pointer (some ⟨cb, 0, none⟩)], args := #[.func (.yield (w6.heap.size + 1)) #[] #[]] }, (w6.alloc (.deferred (some []))).alloc (.loop rec0), 55,
    #[.func (.yield (w6.heap.size + 1)) #[] #[], .pointer (some ⟨cb, 0, none⟩)], (w6.alloc (.deferred (some []))).alloc (.loop rec0), ?_, ?_, ?_, ?_, ?_, ?_⟩
   · rw [← hrec]; exact run_enterLoop_outer _ _ _ _ _
   · simp [resolve, go_sem]
   · intro f' hf'; trivial
   · simp [invoke, go_sem]
   · intro _; omega
   rw [hlp]
   have hkl : kb < lp ∧ xb < lp ∧ cb < lp := by omega
   have hne : xb ≠ kb ∧ kb ≠ cb := by omega
   have hBk : B ≤ kb := by omega
   have hY : YdI sig.length B lp kb (CntI sig.length kb xb lp rec0) := by
    refine ⟨fun m W W' h hb => h.low hb, fun m W h => ⟨h.lt.1, h.lt.2.1⟩, hBk, by omega, ?_⟩
    clear hz hB hn hzr hz2 hz1l hBk
    have r1 := congrArg Loop.tmps hrec
    have r2 := congrArg Loop.params hrec
    have r3 := congrArg Loop.assign hrec
    have r4 := congrArg Loop.body hrec
    have r5 : rec0.state = .ready := by rw [← hrec]
    have r6 : { { rec0 with state := .busy } with state := .ready, pending := none } = rec0 := by rw [← hrec]
    have R6 := Lh r6
    simp only [] at r1 r2 r3 r4
    clear hrec r6
    intro m fi W hI hfi hm
    obtain ⟨ls, hln, hls, hown, hxb, hL⟩ := hI
    have hy := run_yield (P := Tryz.prog) (args := #[.int .i64 (fi : Nat)]) hL (by rw [← r2]; rfl)
    rw [← r1, ← r2, ← r3, ← r4] at hy
    simp at hy
    refine ⟨_, _, _, _, hy, roundIn_of_wpIn (F := Fence.wide) trivial ?_⟩
    clear hy r1 r2 r3 r4
    have hl := ltOf hL
    have hbr := run_beginRound (P := Tryz.prog) hL r5
    have hL2 := World.putObj_heap_same (w := W) (o := .loop { rec0 with state := .busy }) hl
    have hU2 : Upd W (W.putObj lp (.loop { rec0 with state := .busy })) (fun k => k = lp) := (Upd.refl W _).putObj _ _ (.inl rfl)
    generalize W.putObj lp (.loop { rec0 with state := .busy }) = W2 at hbr hL2 hU2
    have hown2 := hown.upd hU2 (by intro g hg e; injection hg with hg; simp only at hg; omega)
    have hxb2 := hxb.upd hU2 (by omega)
    have hfl : fi < ls.length := by omega
    have hfi2 : ¬ ((sig.length : Int) ≤ (fi : Int)) := by omega
    obtain ⟨g, hg, -, hg1, c0, cf⟩ := icells_at hown2 hfl
    injection hg with hg
    injection hg with hg
    subst hg
    have q0 := hxb2.cell
    have hx := hls ls[fi] (List.getElem_mem hfl)
    generalize ls[fi] = x at c0 hx
    have hset := fun u => icells_set (j := fi) hown2 u
    have Hset := Lh hset
    have HU2 := Lh hU2
    have HL2 := Lh hL2
    have HXB2 := Lh hxb2
    have Hls := Lh hls
    clear hset hU2 hL2 hxb2 hls hown hxb hL hown2 r5
    gi_wp2_with (
     rw [Oper.semAt_eq _ _ _ (fun c h => by cases h)]
     go_simp
     try go_bits)
    have hs3 : Upd W2 (W2.setCell ⟨kb, fi, none⟩ (.int .i64 (x + 1))) (fun k => k = kb) := (Upd.refl W2 _).setCell _ _ (.inl rfl)
    have hL3 := (hs3.block lp (ltOf HL2.out) (by omega)).trans HL2.out
    have hxb3 := HXB2.out.upd hs3 (by omega)
    have hown3 := Hset.out (x + 1)
    have hu3 : Upd W (W2.setCell ⟨kb, fi, none⟩ (.int .i64 (x + 1))) (fun k => k = kb ∨ k = lp) := (HU2.out.more (fun i hi => .inl (.inr hi))).trans hs3 (fun i hi => .inl (.inl hi))
    generalize W2.setCell ⟨kb, fi, none⟩ (.int .i64 (x + 1)) = W3 at hL3 hxb3 hown3 hu3 ⊢
    have hp : ∀ o, Upd W3 (W3.putObj lp o) (fun k => k = lp) := fun o => (Upd.refl W3 _).putObj _ _ (.inl rfl)
    refine ⟨_, _, run_endRound none hL3, rfl, ⟨ls.set fi (x + 1), by rw [List.length_set]; exact hln, ?_, hown3.upd (hp _) ?_, hxb3.upd (hp _) (by omega), (World.putObj_heap_same (ltOf hL3)).trans (congrArg (fun r => some (Obj.loop r)) R6.out)⟩, hu3.putObj _ _ (.inl (.inr rfl))⟩
    · intro y hy
      rcases List.mem_or_eq_of_mem_set hy with hy | rfl
      · have := Hls.out y hy; omega
      omega
    intro g hg e
    injection hg with hg
    simp only at hg
    omega
   have hb7 : Below w6.heap.size w6 ((w6.alloc (.deferred (some []))).alloc (.loop rec0)) := (below_box w6 _).alloc (by simp) _
   have hk7 : ((w6.alloc (.deferred (some []))).alloc (.loop rec0)).heap[w6.heap.size]? = some (.deferred (some [])) := ((below_box (w6.alloc (.deferred (some []))) _).block _ (by simp)).trans (heap_alloc_new w6 _)
   have hl7 : ((w6.alloc (.deferred (some []))).alloc (.loop rec0)).heap[lp]? = some (.loop rec0) := by
    have := heap_alloc_new (w6.alloc (.deferred (some []))) (.loop rec0)
    rw [World.size_alloc, hlp] at this
    exact this
   have hz7 := hb7.size
   generalize (w6.alloc (.deferred (some []))).alloc (.loop rec0) = w7 at hb7 hk7 hl7 hz7 ⊢
   have hI7 : CntI sig.length kb xb lp rec0 0 w7 := ⟨List.replicate sig.length 0, List.length_replicate, fun x hx => by rw [(List.mem_replicate.1 hx).2]; simp, HO6.out.low hb7, HX6.out.low hb7, hl7⟩
   have HB7 := Lh (HB6.out.trans (hb7.mono (by omega)))
   have Hb7w := Lh (Hb0.out.trans (HB7.out.mono (by omega)))
   refine callsIn_wide.2 ((symbols1_any sig.length B lp kb cb _ hY cs _ w7 Hokc.out (HR.out.low Hb7w.out hB) (by omega) hI7 hz (HC6.out.low hb7) (by omega)).mono ?_)
   clear hY hI7 hb7
   rintro e w8 ⟨m8, rfl, hm8, hI8, hu8⟩
   have hz8 := hu8.size
   obtain ⟨ls, hln, hls, hown, hxb8, hL8⟩ := hI8
   have r5 : rec0.state = .ready := by rw [← hrec]
   have r6 : rec0.pending = none := by rw [← hrec]
   have hend := run_endLoop (P := Tryz.prog) hL8 (by rw [r5]; decide)
   have hu9 : Upd w8 (w8.putObj lp (.loop { rec0 with state := .exhausted })) (fun k => k = lp) := (Upd.refl w8 _).putObj _ _ (.inl rfl)
   generalize w8.putObj lp (.loop { rec0 with state := .exhausted }) = w9 at hend hu9
   have hk9 := (hu9.block w6.heap.size (by have := ltOf hk7; omega) (by omega)).trans ((hu8.block w6.heap.size (ltOf hk7) (by omega)).trans hk7)
   have hown9 := hown.upd hu9 (by intro g hg e; injection hg with hg; simp only at hg; omega)
   have hxb9 := hxb8.upd hu9 (by omega)
   have q9 := hxb9.cell
   have hbel9 : Below w.heap.size w w9 := Hb7w.out.trans ((hu8.trans hu9 (fun i hi => .inl (.inr hi))).toLow (by omega) (by rintro k (rfl | rfl) <;> omega))
   have Hk9 := Lh hk9
   have Hown9 := Lh hown9
   have Hbel9 := Lh hbel9
   have Hls := Lh hls
   refine ⟨none, w9, by rw [← r6]; exact hend, ?_⟩
   clear hend hu9 hu8 hk9 hown9 hown hxb8 hL8 hbel9 hxb9 hls r5 r6 hrec hk7 hl7
   simp only []
   gi_wp2
   go_wp2_with fail
   have hu10 : Upd w9 (w9.putObj w6.heap.size (.deferred none)) (fun i => i = w6.heap.size) := (Upd.refl w9 _).putObj _ _ (.inl rfl)
   refine ⟨by simp, .inl ⟨_, _, rfl, run_takeDeferred Hk9.out, ?_⟩⟩
   refine ⟨_, results_tmp2 rfl _ _ _, ?_, .inr ⟨hN1, hN2, Hokc.out, kb, ls, rfl, by omega, hln, fun x hx => ?_, ?_⟩⟩
   · exact Hbel9.out.trans (hu10.toLow (by have := Hbel9.out.size; omega) (by rintro k rfl; omega))
   · have := Hls.out x hx; omega
   exact (Hown9.out.upd hu10 (by intro g hg e; injection hg with hg; simp only at hg; omega)).base_le (by omega)
 have hnb : (n != 0) = true := by rw [bne_iff_ne]; exact h0
 clear h0 hn0
 go_wp2_with fail
 exact endM_nil (results_tmp2 rfl _ _ _) rfl ⟨HB2.out, .inl ⟨.slice none 0 0, 2, rfl, by decide, fun h => absurd (Hsg.out h) (by rw [bne_iff_ne] at hnb; exact hnb)⟩⟩
theorem all_any {ar : Int → Option Nat} {o : Od} {Ls Lt : PL} {wb gm : Nat} {Ap Aw As At : Option Addr} {cp cw cs ct : Nat} {D : Nat} (hab : AbvH ar o Ls Lt wb gm Ap Aw As At cp cw cs ct D (WkR o Ls Lt gm)) (i k : Nat) (s : Tm) (g : Int) (ys : List Tm) (w : World) (hD : sizeT s + sizeT (.mk g ys) ≤ D)
 (hs : PartAt Ls i s) (ht : PartAt Lt k (.mk g ys)) (hws : wfT ar s) (hwt : wfT ar (.mk g ys)) (hwk : Wk o Ls Lt wb gm Ap Aw As At cp cw cs ct w) (hm : Memo o Ls Lt gm w) :
 Calls Tryz.prog 101 #[.pointer (some ⟨wb, 0, none⟩), .int .i64 (i : Nat), .int .i64 (k : Nat)] w (WkR o Ls Lt gm (lall o.kp.pr s ys) w) := by
 have hcs := hwk.cells
 obtain ⟨x1, x4, x5, x6⟩ := hcs
 obtain ⟨ist, hitt, hpst⟩ : ∃ is, Lt[k]? = some (.mk g ys, is) ∧ PartsAt Lt is ys := by rw [PartAt] at ht; exact ht
 obtain ⟨tb, tq, T1, d1, T2, d2, hAt, hk1, htne, htl, t0, t1, t2, hrt1, hrt2, hnt⟩ := pl_at hwk.t hitt
 subst hAt
 have hk2 : ¬ ((Lt.length : Int) ≤ (k : Int)) := by omega
 have hl := hpst.len
 obtain ⟨r, hr⟩ : ∃ r, lall o.kp.pr s ys = r := ⟨_, rfl⟩
 rw [hr]
 have Hab := Lh hab
 have Hs := Lh hs
 have Hws := Lh hws
 have Hwt := Lh hwt
 have Hwk := Lh hwk
 have Hm := Lh hm
 have Hps := Lh hpst
 have Hrt2 := Lh hrt2
 have Hr := Lh hr
 have Hl := Lh hl
 clear hab hs hws hwt hwk hm hpst hrt1 hrt2 hitt ht hr hl x1 x4 x6 t0 t1
 go_enter Tryz.func101, Tryz.ntmps101
 go_wp2_with fail
 go_loopw [21] (fun c wr => ∃ j : Nat, j ≤ ist.length ∧ c = .int .i64 j ∧ (∀ m (h : m < ys.length), m < j → lgt o.kp.pr s ys[m] = true) ∧ Upd w wr (fun b => b = gm) ∧ Memo o Ls Lt gm wr) (fun c _ => ist.length - (intOf c).toNat)
 case atStart => exact ⟨0, Nat.zero_le _, rfl, fun m _ h => by omega, Upd.refl _ _, Hm.out⟩
 obtain ⟨j, hj, rfl, hall, hur, hmr⟩ := hrel
 have hzr := hur.size
 have hwr := Hwk.out.upd hur
 have Hwr := Lh hwr
 have Hall := Lh hall
 have Hur := Lh hur
 have Hmr := Lh hmr
 clear hwr hall hmr
 by_cases hlt : j < ist.length
 · have hly : j < ys.length := by have := Hl.out; omega
   have hlt2 : ¬ ((ist.length : Int) ≤ (j : Int)) := by omega
   obtain ⟨a, ha, hpa⟩ := Hps.out.at_ j hlt hly
   obtain ⟨ib, io, hT2, hne, hil, c0⟩ := int_at Hrt2.out hlt
   subst hT2
   rw [ha] at c0
   have c0 : wr.cell? ⟨ib, io + j, none⟩ = some (.int .i64 (a : Nat)) := (World.cell?_of_block (a := ⟨ib, io + j, none⟩) (hur.block ib hil hne)).trans c0
   have hsz := sizeT_arg (f := g) (List.getElem_mem hly)
   have hcl := Hab.out i a s ys[j] wr (by omega) Hs.out hpa Hws.out (Hwt.out.args (List.getElem_mem hly)) Hwr.out Hmr.out
   obtain ⟨b, hb⟩ : ∃ b, lgt o.kp.pr s ys[j] = b := ⟨_, rfl⟩
   rw [hb] at hcl
   have Hcl := Lh hcl
   have Hb := Lh hb
   clear hcl hb hpa ha hur hsz
   go_wp2_with fail
   refine Hcl.out.mono ?_
   rintro e w6 ⟨rfl, hu6, hm6⟩
   have Hu6 := Lh (Hur.out.trans hu6 (fun _ e => .inl e))
   have Hm6 := Lh hm6
   clear hu6 hm6
   cases b with
   | true =>
     go_wp2_with fail
     go_roundw
     case rel =>
      refine ⟨j + 1, by omega, by go_num, fun m hm hmj => ?_, Hu6.out, Hm6.out⟩
      by_cases e : m = j
      · subst e; exact Hb.out
      exact Hall.out m hm (by omega)
     case measure => simp [intOf]; omega
   | false =>
     have hf : r = false := by
      rw [← Hr.out]
      cases hq : lall o.kp.pr s ys with
      | false => rfl
      | true =>
        have := (lall_iff o.kp.pr s ys).1 hq _ (List.getElem_mem hly)
        rw [Hb.out] at this
        cases this
     have Hf := Lh hf
     clear hf
     go_wp2_with fail
     go_ret
     exact ⟨by rw [Hf.out]; rfl, Hu6.out, Hm6.out⟩
 have hf : r = true := by
  rw [← Hr.out, lall_iff]
  intro y hy
  obtain ⟨m, hm, rfl⟩ := List.mem_iff_getElem.1 hy
  exact Hall.out m hm (by have := Hl.out; omega)
 have Hf := Lh hf
 clear hf hur
 go_wp2_with fail
 go_ret
 exact ⟨by rw [Hf.out]; rfl, Hur.out, Hmr.out⟩
theorem within_any {ar : Int → Option Nat} {o : Od} {Ls Lt : PL} {wb gm : Nat} {Ap Aw As At : Option Addr} {cp cw cs ct : Nat} {D : Nat} (hab : AbvH ar o Ls Lt wb gm Ap Aw As At cp cw cs ct D (WkR o Ls Lt gm)) (i k : Nat) (f g : Int) (xs ys : List Tm) (w : World) (hD : sizeT (.mk f xs) + sizeT (.mk g ys) ≤ D)
 (hs : PartAt Ls i (.mk f xs)) (ht : PartAt Lt k (.mk g ys)) (hws : wfT ar (.mk f xs)) (hwt : wfT ar (.mk g ys)) (hwk : Wk o Ls Lt wb gm Ap Aw As At cp cw cs ct w) (hm : Memo o Ls Lt gm w) :
 Calls Tryz.prog 89 #[.pointer (some ⟨wb, 0, none⟩), .int .i64 (i : Nat), .int .i64 (k : Nat)] w (WkR o Ls Lt gm (rIn o.kp.pr (.mk f xs) (.mk g ys)) w) := by
 have hcs := hwk.cells
 obtain ⟨x1, x4, x5, x6⟩ := hcs
 obtain ⟨ist, hitt, hpst⟩ : ∃ is, Lt[k]? = some (.mk g ys, is) ∧ PartsAt Lt is ys := by rw [PartAt] at ht; exact ht
 obtain ⟨tb, tq, T1, d1, T2, d2, hAt, hk1, htne, htl, t0, t1, t2, hrt1, hrt2, hnt⟩ := pl_at hwk.t hitt
 subst hAt
 have hk2 : ¬ ((Lt.length : Int) ≤ (k : Int)) := by omega
 obtain ⟨iss, hits, hpss⟩ : ∃ is, Ls[i]? = some (.mk f xs, is) ∧ PartsAt Ls is xs := by rw [PartAt] at hs; exact hs
 obtain ⟨sb, sq, S1, e1, S2, e2, hAs, hi1, hsne, hsl, s0, s1, s2, hrs1, hrs2, hns⟩ := pl_at hwk.s hits
 subst hAs
 have hi2 : ¬ ((Ls.length : Int) ≤ (i : Int)) := by omega
 have hl := hpss.len
 have hwl := ltOf hwk.box
 obtain ⟨r, hr⟩ : ∃ r, rIn o.kp.pr (.mk f xs) (.mk g ys) = r := ⟨_, rfl⟩
 rw [hr]
 have hr : (if g < 0 then false else lwithin o.kp.pr xs (.mk g ys)) = r := hr
 have Hab := Lh hab
 have Ht := Lh ht
 have Hws := Lh hws
 have Hwt := Lh hwt
 have Hwk := Lh hwk
 have Hm := Lh hm
 have Hps := Lh hpss
 have Hrs1 := Lh hrs1
 have Hrs2 := Lh hrs2
 have Hrt1 := Lh hrt1
 have Hl := Lh hl
 have Hne := Lh hwk.ne
 have X4 := Lh x4
 have X5 := Lh x5
 have S1c := Lh s1
 have T0c := Lh t0
 have T1c := Lh t1
 have Hsne := Lh hsne
 have Htne := Lh htne
 by_cases hg : g < 0
 · rw [if_pos hg] at hr
   have Hr := Lh hr
   clear hab hs ht hws hwt hwk hm hpss hpst hrs1 hrs2 hrt1 hrt2 hitt hits hr hl x1 x6 s0 s1 s2 t1 t2 hsne htne
   go_enter Tryz.func89, Tryz.ntmps89
   go_wp2_with fail
   go_ret
   exact ⟨by rw [← Hr.out]; rfl, Upd.refl _ _, Hm.out⟩
 rw [if_neg hg] at hr
 have Hr := Lh hr
 clear hab hs ht hws hwt hwk hm hpss hpst hrs1 hrs2 hrt1 hrt2 hitt hits hr hl x1 x6 s0 s1 t1 t2 hsne htne
 go_enter Tryz.func89, Tryz.ntmps89
 go_wp2_with fail
 clear x4 x5 s2 t0
 go_loopw [28] (fun c wr => ∃ j : Nat, j ≤ iss.length ∧ c = .int .i64 j ∧ (∀ m (h : m < xs.length), m < j → ¬ (xs[m] = .mk g ys ∨ lgt o.kp.pr xs[m] (.mk g ys) = true)) ∧ Upd w wr (fun b => b = gm) ∧ Memo o Ls Lt gm wr) (fun c _ => iss.length - (intOf c).toNat)
 case atStart => exact ⟨0, Nat.zero_le _, rfl, fun m _ h => by omega, Upd.refl _ _, Hm.out⟩
 obtain ⟨j, hj, rfl, hall, hur, hmr⟩ := hrel
 have hzr := hur.size
 have Hall := Lh hall
 have Hur := Lh hur
 have Hmr := Lh hmr
 clear hall hmr hur
 by_cases hlt : j < iss.length
 · have hjx : j < xs.length := by have := Hl.out; omega
   have hlt2 : ¬ ((iss.length : Int) ≤ (j : Int)) := by omega
   have hjx2 : ¬ ((xs.length : Int) ≤ (j : Int)) := by omega
   obtain ⟨a, ha, hpa⟩ := Hps.out.at_ j hlt hjx
   obtain ⟨ib, io, hS2, hne, hil, c0⟩ := int_at Hrs2.out hlt
   subst hS2
   rw [ha] at c0
   have c0 := keepC Hur.out hne hil c0
   obtain ⟨ab, off, f1, us, B1, d1', hS1, hxk, hane, hal, k0, k1, hru⟩ := tmP_at Hrs1.out hjx
   subst hS1
   have hsz := sizeT_arg (f := f) (List.getElem_mem hjx)
   have hwx := Hws.out.args (List.getElem_mem hjx)
   have hcl := fun (w' : World) (hu : Upd w w' (fun b => b = gm)) (hm : Memo o Ls Lt gm w') => Hab.out a k xs[j] (.mk g ys) w' (by omega) hpa Ht.out hwx Hwt.out (Hwk.out.upd hu) hm
   rw [hxk] at hcl
   have hsa := fun (w' : World) (hu : Upd w w' (fun b => b = gm)) => same_tm f1 g us ys (.slice B1 us.length d1') (.slice T1 ys.length d1) w'.heap.size w' (hru.upd hu (fun b hb _ => hb)).rd' (Hrt1.out.upd hu (fun b hb _ => hb)).rd' (Nat.le_refl _)
   obtain ⟨b1, hb1⟩ : ∃ b, eqB (.mk f1 us) (.mk g ys) = b := ⟨_, rfl⟩
   obtain ⟨b2, hb2⟩ : ∃ b, lgt o.kp.pr (.mk f1 us) (.mk g ys) = b := ⟨_, rfl⟩
   rw [hb1] at hsa
   rw [hb2] at hcl
   have hor : (xs[j] = .mk g ys ∨ lgt o.kp.pr xs[j] (.mk g ys) = true) ↔ (b1 = true ∨ b2 = true) := by rw [hxk, ← hb1, ← hb2, eqB_iff]
   have Hcl := Lh hcl
   have Hsa := Lh hsa
   have Hor := Lh hor
   have K0 := Lh k0
   have K1 := Lh k1
   have Habne := Lh hane
   clear hcl hsa hor hb1 hb2 hpa ha hsz hwx hxk k0 k1 hru hane hne
   go_upto_region 6 with fail
   cases b1 with
   | true =>
     refine bu 27 (fun w' => Upd w w' (fun j => j = gm) ∧ Memo o Ls Lt gm w') (fun wd hwd hbd => ?_) ?_
     · exact ⟨Hur.out.trans (Upd.low (hwd ▸ hbd) (fun j => j = gm)) (fun _ e => .inl e), Hmr.out.low (hwd ▸ hbd)⟩
     refine pu 0 (.pointer (some ⟨wb, 0, none⟩)) ?_
     refine pu 1 (.pointer (some ⟨wb, 0, none⟩)) ?_
     refine pu 2 (.pointer (some ⟨wb, 4, none⟩)) ?_
     refine ru 3 (.slice (some ⟨sb, sq, none⟩) Ls.length cs) (fun w' hw => ?_) ?_
     · have q4 := keepC hw.1 Hne.out hwl X4.out
       simp [execOp, go_sem, q4]
     refine pu 4 (.int .i64 (i : Nat)) ?_
     refine ru 5 (.pointer (some ⟨sb, sq + i * 3, none⟩)) (fun w' hw => ?_) ?_
     · simp [execOp, go_sem, hi1, hi2]
     refine pu 6 (.pointer (some ⟨sb, sq + i * 3, none⟩)) ?_
     refine pu 7 (.pointer (some ⟨sb, sq + i * 3 + 1, none⟩)) ?_
     refine ru 8 (.slice (some ⟨ab, off, none⟩) xs.length e1) (fun w' hw => ?_) ?_
     · have q1 := keepC hw.1 Hsne.out hsl S1c.out
       simp [execOp, go_sem, q1]
     refine pu 9 (.int .i64 (j : Nat)) ?_
     refine ru 10 (.pointer (some ⟨ab, off + j * 2, none⟩)) (fun w' hw => ?_) ?_
     · simp [execOp, go_sem, hjx, hjx2]
     refine ru 11 (.agg #[.int .i64 f1, .slice B1 us.length d1']) (fun w' hw => ?_) ?_
     · have q8 := keepC hw.1 Habne.out hal K0.out
       have q9 := keepC hw.1 Habne.out hal K1.out
       simp [execOp, go_sem, q8, q9]
     refine pu 12 (.pointer (some ⟨wb, 0, none⟩)) ?_
     refine pu 13 (.pointer (some ⟨wb, 0, none⟩)) ?_
     refine pu 14 (.pointer (some ⟨wb, 5, none⟩)) ?_
     refine ru 15 (.slice (some ⟨tb, tq, none⟩) Lt.length ct) (fun w' hw => ?_) ?_
     · have q5 := keepC hw.1 Hne.out hwl X5.out
       simp [execOp, go_sem, q5]
     refine pu 16 (.int .i64 (k : Nat)) ?_
     refine ru 17 (.pointer (some ⟨tb, tq + k * 3, none⟩)) (fun w' hw => ?_) ?_
     · simp [execOp, go_sem, hk1, hk2]
     refine pu 18 (.pointer (some ⟨tb, tq + k * 3, none⟩)) ?_
     refine ru 19 (.agg #[.int .i64 g, .slice T1 ys.length d1]) (fun w' hw => ?_) ?_
     · have q6 := keepC hw.1 Htne.out htl T0c.out
       have q7 := keepC hw.1 Htne.out htl T1c.out
       simp [execOp, go_sem, q6, q7]
     refine cu 20 (.bool true) (fun w' hw => (Hsa.out w' hw.1).mono ?_) ?_
     · rintro e w2 ⟨rfl, hb⟩
       exact ⟨rfl, hw.1.trans (Upd.low hb (fun j => j = gm)) (fun _ e => .inl e), hw.2.low hb⟩
     refine pu 21 (.bool true) ?_
     refine su 22 ?_
     refine su 23 ?_
     refine su 24 ?_
     refine su 25 ?_
     refine pu 26 (.bool true) ?_
     refine du (fun wz hS => ?_)
     have HSz := Lh hS
     clear hS
     have hf : r = true := by
      rw [← Hr.out, lwithin_iff]
      exact ⟨_, List.getElem_mem hjx, Hor.out.2 (.inl rfl)⟩
     have Hf := Lh hf
     clear hf
     go_wp2_with fail
     go_ret
     exact ⟨by rw [Hf.out]; rfl, HSz.out.1, HSz.out.2⟩
   | false =>
     cases b2 with
     | true =>
       refine bu 27 (fun w' => Upd w w' (fun j => j = gm) ∧ Memo o Ls Lt gm w') (fun wd hwd hbd => ?_) ?_
       · exact ⟨Hur.out.trans (Upd.low (hwd ▸ hbd) (fun j => j = gm)) (fun _ e => .inl e), Hmr.out.low (hwd ▸ hbd)⟩
       refine pu 0 (.pointer (some ⟨wb, 0, none⟩)) ?_
       refine pu 1 (.pointer (some ⟨wb, 0, none⟩)) ?_
       refine pu 2 (.pointer (some ⟨wb, 4, none⟩)) ?_
       refine ru 3 (.slice (some ⟨sb, sq, none⟩) Ls.length cs) (fun w' hw => ?_) ?_
       · have q4 := keepC hw.1 Hne.out hwl X4.out
         simp [execOp, go_sem, q4]
       refine pu 4 (.int .i64 (i : Nat)) ?_
       refine ru 5 (.pointer (some ⟨sb, sq + i * 3, none⟩)) (fun w' hw => ?_) ?_
       · simp [execOp, go_sem, hi1, hi2]
       refine pu 6 (.pointer (some ⟨sb, sq + i * 3, none⟩)) ?_
       refine pu 7 (.pointer (some ⟨sb, sq + i * 3 + 1, none⟩)) ?_
       refine ru 8 (.slice (some ⟨ab, off, none⟩) xs.length e1) (fun w' hw => ?_) ?_
       · have q1 := keepC hw.1 Hsne.out hsl S1c.out
         simp [execOp, go_sem, q1]
       refine pu 9 (.int .i64 (j : Nat)) ?_
       refine ru 10 (.pointer (some ⟨ab, off + j * 2, none⟩)) (fun w' hw => ?_) ?_
       · simp [execOp, go_sem, hjx, hjx2]
       refine ru 11 (.agg #[.int .i64 f1, .slice B1 us.length d1']) (fun w' hw => ?_) ?_
       · have q8 := keepC hw.1 Habne.out hal K0.out
         have q9 := keepC hw.1 Habne.out hal K1.out
         simp [execOp, go_sem, q8, q9]
       refine pu 12 (.pointer (some ⟨wb, 0, none⟩)) ?_
       refine pu 13 (.pointer (some ⟨wb, 0, none⟩)) ?_
       refine pu 14 (.pointer (some ⟨wb, 5, none⟩)) ?_
       refine ru 15 (.slice (some ⟨tb, tq, none⟩) Lt.length ct) (fun w' hw => ?_) ?_
       · have q5 := keepC hw.1 Hne.out hwl X5.out
         simp [execOp, go_sem, q5]
       refine pu 16 (.int .i64 (k : Nat)) ?_
       refine ru 17 (.pointer (some ⟨tb, tq + k * 3, none⟩)) (fun w' hw => ?_) ?_
       · simp [execOp, go_sem, hk1, hk2]
       refine pu 18 (.pointer (some ⟨tb, tq + k * 3, none⟩)) ?_
       refine ru 19 (.agg #[.int .i64 g, .slice T1 ys.length d1]) (fun w' hw => ?_) ?_
       · have q6 := keepC hw.1 Htne.out htl T0c.out
         have q7 := keepC hw.1 Htne.out htl T1c.out
         simp [execOp, go_sem, q6, q7]
       refine cu 20 (.bool false) (fun w' hw => (Hsa.out w' hw.1).mono ?_) ?_
       · rintro e w2 ⟨rfl, hb⟩
         exact ⟨rfl, hw.1.trans (Upd.low hb (fun j => j = gm)) (fun _ e => .inl e), hw.2.low hb⟩
       refine pu 21 (.bool false) ?_
       refine pu 22 (.pointer (some ⟨wb, 0, none⟩)) ?_
       refine pu 23 (.int .i64 (a : Nat)) ?_
       refine pu 24 (.int .i64 (k : Nat)) ?_
       refine cu 25 (.bool true) (fun w' hw => (Hcl.out w' hw.1 hw.2).mono ?_) ?_
       · rintro e w2 ⟨rfl, hu, hm⟩
         exact ⟨rfl, hw.1.trans hu (fun _ e => .inl e), hm⟩
       refine pu 26 (.bool true) ?_
       refine du (fun wz hS => ?_)
       have HSz := Lh hS
       clear hS
       have hf : r = true := by
        rw [← Hr.out, lwithin_iff]
        exact ⟨_, List.getElem_mem hjx, Hor.out.2 (.inr rfl)⟩
       have Hf := Lh hf
       clear hf
       go_wp2_with fail
       go_ret
       exact ⟨by rw [Hf.out]; rfl, HSz.out.1, HSz.out.2⟩
     | false =>
       refine bu 27 (fun w' => Upd w w' (fun j => j = gm) ∧ Memo o Ls Lt gm w') (fun wd hwd hbd => ?_) ?_
       · exact ⟨Hur.out.trans (Upd.low (hwd ▸ hbd) (fun j => j = gm)) (fun _ e => .inl e), Hmr.out.low (hwd ▸ hbd)⟩
       refine pu 0 (.pointer (some ⟨wb, 0, none⟩)) ?_
       refine pu 1 (.pointer (some ⟨wb, 0, none⟩)) ?_
       refine pu 2 (.pointer (some ⟨wb, 4, none⟩)) ?_
       refine ru 3 (.slice (some ⟨sb, sq, none⟩) Ls.length cs) (fun w' hw => ?_) ?_
       · have q4 := keepC hw.1 Hne.out hwl X4.out
         simp [execOp, go_sem, q4]
       refine pu 4 (.int .i64 (i : Nat)) ?_
       refine ru 5 (.pointer (some ⟨sb, sq + i * 3, none⟩)) (fun w' hw => ?_) ?_
       · simp [execOp, go_sem, hi1, hi2]
       refine pu 6 (.pointer (some ⟨sb, sq + i * 3, none⟩)) ?_
       refine pu 7 (.pointer (some ⟨sb, sq + i * 3 + 1, none⟩)) ?_
       refine ru 8 (.slice (some ⟨ab, off, none⟩) xs.length e1) (fun w' hw => ?_) ?_
       · have q1 := keepC hw.1 Hsne.out hsl S1c.out
         simp [execOp, go_sem, q1]
       refine pu 9 (.int .i64 (j : Nat)) ?_
       refine ru 10 (.pointer (some ⟨ab, off + j * 2, none⟩)) (fun w' hw => ?_) ?_
       · simp [execOp, go_sem, hjx, hjx2]
       refine ru 11 (.agg #[.int .i64 f1, .slice B1 us.length d1']) (fun w' hw => ?_) ?_
       · have q8 := keepC hw.1 Habne.out hal K0.out
         have q9 := keepC hw.1 Habne.out hal K1.out
         simp [execOp, go_sem, q8, q9]
       refine pu 12 (.pointer (some ⟨wb, 0, none⟩)) ?_
       refine pu 13 (.pointer (some ⟨wb, 0, none⟩)) ?_
       refine pu 14 (.pointer (some ⟨wb, 5, none⟩)) ?_
       refine ru 15 (.slice (some ⟨tb, tq, none⟩) Lt.length ct) (fun w' hw => ?_) ?_
       · have q5 := keepC hw.1 Hne.out hwl X5.out
         simp [execOp, go_sem, q5]
       refine pu 16 (.int .i64 (k : Nat)) ?_
       refine ru 17 (.pointer (some ⟨tb, tq + k * 3, none⟩)) (fun w' hw => ?_) ?_
       · simp [execOp, go_sem, hk1, hk2]
       refine pu 18 (.pointer (some ⟨tb, tq + k * 3, none⟩)) ?_
       refine ru 19 (.agg #[.int .i64 g, .slice T1 ys.length d1]) (fun w' hw => ?_) ?_
       · have q6 := keepC hw.1 Htne.out htl T0c.out
         have q7 := keepC hw.1 Htne.out htl T1c.out
         simp [execOp, go_sem, q6, q7]
       refine cu 20 (.bool false) (fun w' hw => (Hsa.out w' hw.1).mono ?_) ?_
       · rintro e w2 ⟨rfl, hb⟩
         exact ⟨rfl, hw.1.trans (Upd.low hb (fun j => j = gm)) (fun _ e => .inl e), hw.2.low hb⟩
       refine pu 21 (.bool false) ?_
       refine pu 22 (.pointer (some ⟨wb, 0, none⟩)) ?_
       refine pu 23 (.int .i64 (a : Nat)) ?_
       refine pu 24 (.int .i64 (k : Nat)) ?_
       refine cu 25 (.bool false) (fun w' hw => (Hcl.out w' hw.1 hw.2).mono ?_) ?_
       · rintro e w2 ⟨rfl, hu, hm⟩
         exact ⟨rfl, hw.1.trans hu (fun _ e => .inl e), hm⟩
       refine pu 26 (.bool false) ?_
       refine du (fun wz hS => ?_)
       have HSz := Lh hS
       clear hS
       go_wp2_with fail
       go_roundw
       case rel =>
        refine ⟨j + 1, by omega, by go_num, fun m hm hmj => ?_, HSz.out.1, HSz.out.2⟩
        by_cases e : m = j
        · subst e
          intro h
          rcases Hor.out.1 h with h | h <;> cases h
        exact Hall.out m hm (by omega)
       case measure => simp [intOf]; omega
 have hf : r = false := by
  rw [← Hr.out]
  cases hq : lwithin o.kp.pr xs (.mk g ys) with
  | false => rfl
  | true =>
    obtain ⟨x, hx, h⟩ := (lwithin_iff o.kp.pr _ xs).1 hq
    obtain ⟨m, hm, rfl⟩ := List.mem_iff_getElem.1 hx
    exact absurd h (Hall.out m hm (by have := Hl.out; omega))
 have Hf := Lh hf
 clear hf
 go_wp2_with fail
 go_ret
 exact ⟨by rw [Hf.out]; rfl, Hur.out, Hmr.out⟩
theorem ranked_any {ar : Int → Option Nat} {o : Od} (hkn : Knows ar o) {Ls Lt : PL} {wb gm : Nat} {Ap Aw As At : Option Addr} {cp cw cs ct : Nat} {D : Nat} (hab : AbvH ar o Ls Lt wb gm Ap Aw As At cp cw cs ct D (WkR o Ls Lt gm)) (i k fi : Nat) (g : Int) (xs ys : List Tm) (w : World) (hD : sizeT (.mk (fi : Nat) xs) + sizeT (.mk g ys) ≤ D)
 (hs : PartAt Ls i (.mk (fi : Nat) xs)) (ht : PartAt Lt k (.mk g ys)) (hws : wfT ar (.mk (fi : Nat) xs)) (hwt : wfT ar (.mk g ys)) (hwk : Wk o Ls Lt wb gm Ap Aw As At cp cw cs ct w) (hm : Memo o Ls Lt gm w) :
 Calls Tryz.prog 90 #[.pointer (some ⟨wb, 0, none⟩), .int .i64 (i : Nat), .int .i64 (k : Nat)] w (WkR o Ls Lt gm (rRank o.kp.pr (.mk (fi : Nat) xs) (.mk g ys)) w) := by
 have hf1 := hkn.1 _ _ (by omega) (hws.ar (by omega))
 have hf1 : fi < o.prec.length := by omega
 have hf2 : ¬ ((o.prec.length : Int) ≤ (fi : Int)) := by omega
 obtain ⟨pf, hpf⟩ : ∃ pf, o.prec[fi] = pf := ⟨_, rfl⟩
 have hpr1 : o.kp.pr (fi : Nat) = pf := by unfold Od.kp; dsimp only; rw [Int.toNat_natCast, List.getElem?_eq_getElem hf1, Option.getD_some, hpf]
 obtain ⟨pb, pq, hAp, hpne, hpl, p1⟩ := int_at hwk.p hf1
 subst hAp
 rw [hpf] at p1
 have Hpr1 := Lh hpr1
 have P1 := Lh p1
 have Hpne := Lh hpne
 clear hpr1 hpf p1 hpne
 by_cases hg : g < 0
 · have hg2 : (decide (0 ≤ g)) = false := decide_eq_false (by omega)
   obtain ⟨r, hr⟩ : ∃ r, rRank o.kp.pr (.mk (fi : Nat) xs) (.mk g ys) = r := ⟨_, rfl⟩
   rw [hr]
   have hr : (decide (0 ≤ g ∧ ((fi : Nat) : Int) ≠ g ∧ o.kp.pr g < o.kp.pr (fi : Nat)) && lall o.kp.pr (.mk (fi : Nat) xs) ys) = r := hr
   have Hr := Lh hr
   have Hal := Lh (fun (w' : World) (hu : Upd w w' (fun b => b = gm)) (hm : Memo o Ls Lt gm w') => all_any hab i k (.mk (fi : Nat) xs) g ys w' hD hs ht hws hwt (hwk.upd hu) hm)
   have hcs := hwk.cells
   obtain ⟨x1, x4, x5, x6⟩ := hcs
   obtain ⟨ist, hitt, hpst⟩ : ∃ is, Lt[k]? = some (.mk g ys, is) ∧ PartsAt Lt is ys := by rw [PartAt] at ht; exact ht
   obtain ⟨tb, tq, T1, d1, T2, d2, hAt, hk1, htne, htl, t0, t1, t2, hrt1, hrt2, hnt⟩ := pl_at hwk.t hitt
   subst hAt
   have hk2 : ¬ ((Lt.length : Int) ≤ (k : Int)) := by omega
   obtain ⟨iss, hits, hpss⟩ : ∃ is, Ls[i]? = some (.mk ((fi : Nat) : Int) xs, is) ∧ PartsAt Ls is xs := by rw [PartAt] at hs; exact hs
   obtain ⟨sb, sq, S1, e1, S2, e2, hAs, hi1, hsne, hsl, s0, s1, s2, hrs1, hrs2, hns⟩ := pl_at hwk.s hits
   subst hAs
   have hi2 : ¬ ((Ls.length : Int) ≤ (i : Int)) := by omega
   have hwl := ltOf hwk.box
   have Hwk := Lh hwk
   have Hm := Lh hm
   have Hne := Lh hwk.ne
   have X1 := Lh x1
   have X4 := Lh x4
   have X5 := Lh x5
   have S0c := Lh s0
   have T0c := Lh t0
   have Hsne := Lh hsne
   have Htne := Lh htne
   clear hab hs ht hws hwt hwk hm hpss hpst hrs1 hrs2 hrt1 hrt2 hitt hits hr x1 x4 x5 x6 s0 s1 s2 t0 t1 t2 hsne htne hnt hns
   go_enter Tryz.func90, Tryz.ntmps90
   go_upto_region 1 with fail
   refine bu 20 (fun w' => Upd w w' (fun j => j = gm) ∧ Memo o Ls Lt gm w') (fun wd hwd hbd => ?_) ?_
   · exact ⟨Upd.low (hwd ▸ hbd) (fun j => j = gm), Hm.out.low (hwd ▸ hbd)⟩
   refine pu 0 (.pointer (some ⟨wb, 0, none⟩)) ?_
   refine pu 1 (.pointer (some ⟨wb, 0, none⟩)) ?_
   refine pu 2 (.pointer (some ⟨wb, 4, none⟩)) ?_
   refine ru 3 (.slice (some ⟨sb, sq, none⟩) Ls.length cs) (fun w' hw => ?_) ?_
   · have q4 := keepC hw.1 Hne.out hwl X4.out
     simp [execOp, go_sem, q4]
   refine pu 4 (.int .i64 (i : Nat)) ?_
   refine ru 5 (.pointer (some ⟨sb, sq + i * 3, none⟩)) (fun w' hw => ?_) ?_
   · simp [execOp, go_sem, hi1, hi2]
   refine pu 6 (.pointer (some ⟨sb, sq + i * 3, none⟩)) ?_
   refine pu 7 (.pointer (some ⟨sb, sq + i * 3, none⟩)) ?_
   refine ru 8 (.int .i64 (fi : Nat)) (fun w' hw => ?_) ?_
   · have q0 := keepC hw.1 Hsne.out hsl S0c.out
     simp [execOp, go_sem, q0]
   refine pu 9 (.pointer (some ⟨wb, 0, none⟩)) ?_
   refine pu 10 (.pointer (some ⟨wb, 0, none⟩)) ?_
   refine pu 11 (.pointer (some ⟨wb, 5, none⟩)) ?_
   refine ru 12 (.slice (some ⟨tb, tq, none⟩) Lt.length ct) (fun w' hw => ?_) ?_
   · have q5 := keepC hw.1 Hne.out hwl X5.out
     simp [execOp, go_sem, q5]
   refine pu 13 (.int .i64 (k : Nat)) ?_
   refine ru 14 (.pointer (some ⟨tb, tq + k * 3, none⟩)) (fun w' hw => ?_) ?_
   · simp [execOp, go_sem, hk1, hk2]
   refine pu 15 (.pointer (some ⟨tb, tq + k * 3, none⟩)) ?_
   refine pu 16 (.pointer (some ⟨tb, tq + k * 3, none⟩)) ?_
   refine ru 17 (.int .i64 g) (fun w' hw => ?_) ?_
   · have q6 := keepC hw.1 Htne.out htl T0c.out
     simp [execOp, go_sem, q6]
   refine pu 18 (.int .i64 (fi : Nat)) ?_
   refine pu 19 (.int .i64 g) ?_
   refine du (fun wz hS => ?_)
   have HSz := Lh hS
   clear hS
   go_upto_region 2 with fail
   have hf : r = false := by rw [← Hr.out, decide_eq_false (by omega)]; rfl
   have Hf := Lh hf
   have P2 := P1
   clear hf
   refine bu 33 (fun w' => Upd w w' (fun j => j = gm) ∧ Memo o Ls Lt gm w') (fun wd hwd hbd => ?_) ?_
   · exact ⟨HSz.out.1.trans (Upd.low (hwd ▸ hbd) (fun j => j = gm)) (fun _ e => .inl e), HSz.out.2.low (hwd ▸ hbd)⟩
   refine pu 0 (.int .i64 g) ?_
   refine ru 1 (.bool false) (fun w' hw => ?_) ?_
   · simp [execOp, go_sem, hg2]
   refine pu 2 (.bool false) ?_
   refine su 3 ?_
   refine su 4 ?_
   refine su 5 ?_
   refine pu 6 (.bool false) ?_
   refine pu 7 (.bool false) ?_
   refine su 8 ?_
   refine su 9 ?_
   refine su 10 ?_
   refine su 11 ?_
   refine su 12 ?_
   refine su 13 ?_
   refine su 14 ?_
   refine su 15 ?_
   refine su 16 ?_
   refine su 17 ?_
   refine su 18 ?_
   refine su 19 ?_
   refine su 20 ?_
   refine su 21 ?_
   refine su 22 ?_
   refine su 23 ?_
   refine su 24 ?_
   refine pu 25 (.bool false) ?_
   refine pu 26 (.bool false) ?_
   refine su 27 ?_
   refine su 28 ?_
   refine su 29 ?_
   refine su 30 ?_
   refine pu 31 (.bool false) ?_
   refine pu 32 (.bool false) ?_
   refine du (fun wz hS => ?_)
   have HSy := Lh hS
   clear hS
   go_wp2_with fail
   go_ret
   exact ⟨by rw [Hf.out]; rfl, HSy.out.1, HSy.out.2⟩
 obtain ⟨gj, rfl⟩ : ∃ gj : Nat, g = (gj : Int) := ⟨g.toNat, by omega⟩
 by_cases hfg : fi = gj
 · have q5 : (((fi : Nat) : Int) != ((gj : Nat) : Int)) = false := by rw [hfg]; simp
   have Hfg := Lh hfg
   clear hfg
   obtain ⟨r, hr⟩ : ∃ r, rRank o.kp.pr (.mk (fi : Nat) xs) (.mk ((gj : Nat) : Int) ys) = r := ⟨_, rfl⟩
   rw [hr]
   have hr : (decide (0 ≤ ((gj : Nat) : Int) ∧ ((fi : Nat) : Int) ≠ ((gj : Nat) : Int) ∧ o.kp.pr ((gj : Nat) : Int) < o.kp.pr (fi : Nat)) && lall o.kp.pr (.mk (fi : Nat) xs) ys) = r := hr
   have Hr := Lh hr
   have Hal := Lh (fun (w' : World) (hu : Upd w w' (fun b => b = gm)) (hm : Memo o Ls Lt gm w') => all_any hab i k (.mk (fi : Nat) xs) ((gj : Nat) : Int) ys w' hD hs ht hws hwt (hwk.upd hu) hm)
   have hcs := hwk.cells
   obtain ⟨x1, x4, x5, x6⟩ := hcs
   obtain ⟨ist, hitt, hpst⟩ : ∃ is, Lt[k]? = some (.mk ((gj : Nat) : Int) ys, is) ∧ PartsAt Lt is ys := by rw [PartAt] at ht; exact ht
   obtain ⟨tb, tq, T1, d1, T2, d2, hAt, hk1, htne, htl, t0, t1, t2, hrt1, hrt2, hnt⟩ := pl_at hwk.t hitt
   subst hAt
   have hk2 : ¬ ((Lt.length : Int) ≤ (k : Int)) := by omega
   obtain ⟨iss, hits, hpss⟩ : ∃ is, Ls[i]? = some (.mk ((fi : Nat) : Int) xs, is) ∧ PartsAt Ls is xs := by rw [PartAt] at hs; exact hs
   obtain ⟨sb, sq, S1, e1, S2, e2, hAs, hi1, hsne, hsl, s0, s1, s2, hrs1, hrs2, hns⟩ := pl_at hwk.s hits
   subst hAs
   have hi2 : ¬ ((Ls.length : Int) ≤ (i : Int)) := by omega
   have hwl := ltOf hwk.box
   have Hwk := Lh hwk
   have Hm := Lh hm
   have Hne := Lh hwk.ne
   have X1 := Lh x1
   have X4 := Lh x4
   have X5 := Lh x5
   have S0c := Lh s0
   have T0c := Lh t0
   have Hsne := Lh hsne
   have Htne := Lh htne
   clear hab hs ht hws hwt hwk hm hpss hpst hrs1 hrs2 hrt1 hrt2 hitt hits hr x1 x4 x5 x6 s0 s1 s2 t0 t1 t2 hsne htne hnt hns
   go_enter Tryz.func90, Tryz.ntmps90
   go_upto_region 1 with fail
   refine bu 20 (fun w' => Upd w w' (fun j => j = gm) ∧ Memo o Ls Lt gm w') (fun wd hwd hbd => ?_) ?_
   · exact ⟨Upd.low (hwd ▸ hbd) (fun j => j = gm), Hm.out.low (hwd ▸ hbd)⟩
   refine pu 0 (.pointer (some ⟨wb, 0, none⟩)) ?_
   refine pu 1 (.pointer (some ⟨wb, 0, none⟩)) ?_
   refine pu 2 (.pointer (some ⟨wb, 4, none⟩)) ?_
   refine ru 3 (.slice (some ⟨sb, sq, none⟩) Ls.length cs) (fun w' hw => ?_) ?_
   · have q4 := keepC hw.1 Hne.out hwl X4.out
     simp [execOp, go_sem, q4]
   refine pu 4 (.int .i64 (i : Nat)) ?_
   refine ru 5 (.pointer (some ⟨sb, sq + i * 3, none⟩)) (fun w' hw => ?_) ?_
   · simp [execOp, go_sem, hi1, hi2]
   refine pu 6 (.pointer (some ⟨sb, sq + i * 3, none⟩)) ?_
   refine pu 7 (.pointer (some ⟨sb, sq + i * 3, none⟩)) ?_
   refine ru 8 (.int .i64 (fi : Nat)) (fun w' hw => ?_) ?_
   · have q0 := keepC hw.1 Hsne.out hsl S0c.out
     simp [execOp, go_sem, q0]
   refine pu 9 (.pointer (some ⟨wb, 0, none⟩)) ?_
   refine pu 10 (.pointer (some ⟨wb, 0, none⟩)) ?_
   refine pu 11 (.pointer (some ⟨wb, 5, none⟩)) ?_
   refine ru 12 (.slice (some ⟨tb, tq, none⟩) Lt.length ct) (fun w' hw => ?_) ?_
   · have q5 := keepC hw.1 Hne.out hwl X5.out
     simp [execOp, go_sem, q5]
   refine pu 13 (.int .i64 (k : Nat)) ?_
   refine ru 14 (.pointer (some ⟨tb, tq + k * 3, none⟩)) (fun w' hw => ?_) ?_
   · simp [execOp, go_sem, hk1, hk2]
   refine pu 15 (.pointer (some ⟨tb, tq + k * 3, none⟩)) ?_
   refine pu 16 (.pointer (some ⟨tb, tq + k * 3, none⟩)) ?_
   refine ru 17 (.int .i64 ((gj : Nat) : Int)) (fun w' hw => ?_) ?_
   · have q6 := keepC hw.1 Htne.out htl T0c.out
     simp [execOp, go_sem, q6]
   refine pu 18 (.int .i64 (fi : Nat)) ?_
   refine pu 19 (.int .i64 ((gj : Nat) : Int)) ?_
   refine du (fun wz hS => ?_)
   have HSz := Lh hS
   clear hS
   go_upto_region 2 with fail
   have hf : r = false := by rw [← Hr.out, decide_eq_false (by have := Hfg.out; omega)]; rfl
   have Hf := Lh hf
   have P2 := P1
   clear hf
   refine bu 33 (fun w' => Upd w w' (fun j => j = gm) ∧ Memo o Ls Lt gm w') (fun wd hwd hbd => ?_) ?_
   · exact ⟨HSz.out.1.trans (Upd.low (hwd ▸ hbd) (fun j => j = gm)) (fun _ e => .inl e), HSz.out.2.low (hwd ▸ hbd)⟩
   refine pu 0 (.int .i64 ((gj : Nat) : Int)) ?_
   refine ru 1 (.bool true) (fun w' hw => ?_) ?_
   · simp [execOp, go_sem, hk1]
   refine pu 2 (.bool true) ?_
   refine pu 3 (.int .i64 (fi : Nat)) ?_
   refine pu 4 (.int .i64 ((gj : Nat) : Int)) ?_
   refine ru 5 (.bool false) (fun w' hw => ?_) ?_
   · simp [execOp, go_sem, q5]
   refine pu 6 (.bool false) ?_
   refine pu 7 (.bool false) ?_
   refine su 8 ?_
   refine su 9 ?_
   refine su 10 ?_
   refine su 11 ?_
   refine su 12 ?_
   refine su 13 ?_
   refine su 14 ?_
   refine su 15 ?_
   refine su 16 ?_
   refine su 17 ?_
   refine su 18 ?_
   refine su 19 ?_
   refine su 20 ?_
   refine su 21 ?_
   refine su 22 ?_
   refine su 23 ?_
   refine su 24 ?_
   refine pu 25 (.bool false) ?_
   refine pu 26 (.bool false) ?_
   refine su 27 ?_
   refine su 28 ?_
   refine su 29 ?_
   refine su 30 ?_
   refine pu 31 (.bool false) ?_
   refine pu 32 (.bool false) ?_
   refine du (fun wz hS => ?_)
   have HSy := Lh hS
   clear hS
   go_wp2_with fail
   go_ret
   exact ⟨by rw [Hf.out]; rfl, HSy.out.1, HSy.out.2⟩
 have hg1 := hkn.1 _ _ (by omega) (hwt.ar (by omega))
 have hg1 : gj < o.prec.length := by omega
 have hg2 : ¬ ((o.prec.length : Int) ≤ (gj : Int)) := by omega
 obtain ⟨pg, hpg⟩ : ∃ pg, o.prec[gj] = pg := ⟨_, rfl⟩
 have hpr2 : o.kp.pr (gj : Nat) = pg := by unfold Od.kp; dsimp only; rw [Int.toNat_natCast, List.getElem?_eq_getElem hg1, Option.getD_some, hpg]
 obtain ⟨pb2, pq2, hAp2, -, -, p2⟩ := int_at hwk.p hg1
 injection hAp2 with hAp2
 injection hAp2 with e1 e2 _
 subst e1 e2
 rw [hpg] at p2
 have Hpr2 := Lh hpr2
 have P2 := Lh p2
 have q5 : (((fi : Nat) : Int) != ((gj : Nat) : Int)) = true := by rw [bne_iff_ne]; omega
 have Hfg := Lh hfg
 clear hpr2 hpg p2 hfg
 by_cases hlt : pg < pf
 · obtain ⟨r, hr⟩ : ∃ r, rRank o.kp.pr (.mk (fi : Nat) xs) (.mk ((gj : Nat) : Int) ys) = r := ⟨_, rfl⟩
   rw [hr]
   have hr : (decide (0 ≤ ((gj : Nat) : Int) ∧ ((fi : Nat) : Int) ≠ ((gj : Nat) : Int) ∧ o.kp.pr ((gj : Nat) : Int) < o.kp.pr (fi : Nat)) && lall o.kp.pr (.mk (fi : Nat) xs) ys) = r := hr
   have Hr := Lh hr
   have Hal := Lh (fun (w' : World) (hu : Upd w w' (fun b => b = gm)) (hm : Memo o Ls Lt gm w') => all_any hab i k (.mk (fi : Nat) xs) ((gj : Nat) : Int) ys w' hD hs ht hws hwt (hwk.upd hu) hm)
   have hcs := hwk.cells
   obtain ⟨x1, x4, x5, x6⟩ := hcs
   obtain ⟨ist, hitt, hpst⟩ : ∃ is, Lt[k]? = some (.mk ((gj : Nat) : Int) ys, is) ∧ PartsAt Lt is ys := by rw [PartAt] at ht; exact ht
   obtain ⟨tb, tq, T1, d1, T2, d2, hAt, hk1, htne, htl, t0, t1, t2, hrt1, hrt2, hnt⟩ := pl_at hwk.t hitt
   subst hAt
   have hk2 : ¬ ((Lt.length : Int) ≤ (k : Int)) := by omega
   obtain ⟨iss, hits, hpss⟩ : ∃ is, Ls[i]? = some (.mk ((fi : Nat) : Int) xs, is) ∧ PartsAt Ls is xs := by rw [PartAt] at hs; exact hs
   obtain ⟨sb, sq, S1, e1, S2, e2, hAs, hi1, hsne, hsl, s0, s1, s2, hrs1, hrs2, hns⟩ := pl_at hwk.s hits
   subst hAs
   have hi2 : ¬ ((Ls.length : Int) ≤ (i : Int)) := by omega
   have hwl := ltOf hwk.box
   have Hwk := Lh hwk
   have Hm := Lh hm
   have Hne := Lh hwk.ne
   have X1 := Lh x1
   have X4 := Lh x4
   have X5 := Lh x5
   have S0c := Lh s0
   have T0c := Lh t0
   have Hsne := Lh hsne
   have Htne := Lh htne
   clear hab hs ht hws hwt hwk hm hpss hpst hrs1 hrs2 hrt1 hrt2 hitt hits hr x1 x4 x5 x6 s0 s1 s2 t0 t1 t2 hsne htne hnt hns
   go_enter Tryz.func90, Tryz.ntmps90
   go_upto_region 1 with fail
   refine bu 20 (fun w' => Upd w w' (fun j => j = gm) ∧ Memo o Ls Lt gm w') (fun wd hwd hbd => ?_) ?_
   · exact ⟨Upd.low (hwd ▸ hbd) (fun j => j = gm), Hm.out.low (hwd ▸ hbd)⟩
   refine pu 0 (.pointer (some ⟨wb, 0, none⟩)) ?_
   refine pu 1 (.pointer (some ⟨wb, 0, none⟩)) ?_
   refine pu 2 (.pointer (some ⟨wb, 4, none⟩)) ?_
   refine ru 3 (.slice (some ⟨sb, sq, none⟩) Ls.length cs) (fun w' hw => ?_) ?_
   · have q4 := keepC hw.1 Hne.out hwl X4.out
     simp [execOp, go_sem, q4]
   refine pu 4 (.int .i64 (i : Nat)) ?_
   refine ru 5 (.pointer (some ⟨sb, sq + i * 3, none⟩)) (fun w' hw => ?_) ?_
   · simp [execOp, go_sem, hi1, hi2]
   refine pu 6 (.pointer (some ⟨sb, sq + i * 3, none⟩)) ?_
   refine pu 7 (.pointer (some ⟨sb, sq + i * 3, none⟩)) ?_
   refine ru 8 (.int .i64 (fi : Nat)) (fun w' hw => ?_) ?_
   · have q0 := keepC hw.1 Hsne.out hsl S0c.out
     simp [execOp, go_sem, q0]
   refine pu 9 (.pointer (some ⟨wb, 0, none⟩)) ?_
   refine pu 10 (.pointer (some ⟨wb, 0, none⟩)) ?_
   refine pu 11 (.pointer (some ⟨wb, 5, none⟩)) ?_
   refine ru 12 (.slice (some ⟨tb, tq, none⟩) Lt.length ct) (fun w' hw => ?_) ?_
   · have q5 := keepC hw.1 Hne.out hwl X5.out
     simp [execOp, go_sem, q5]
   refine pu 13 (.int .i64 (k : Nat)) ?_
   refine ru 14 (.pointer (some ⟨tb, tq + k * 3, none⟩)) (fun w' hw => ?_) ?_
   · simp [execOp, go_sem, hk1, hk2]
   refine pu 15 (.pointer (some ⟨tb, tq + k * 3, none⟩)) ?_
   refine pu 16 (.pointer (some ⟨tb, tq + k * 3, none⟩)) ?_
   refine ru 17 (.int .i64 ((gj : Nat) : Int)) (fun w' hw => ?_) ?_
   · have q6 := keepC hw.1 Htne.out htl T0c.out
     simp [execOp, go_sem, q6]
   refine pu 18 (.int .i64 (fi : Nat)) ?_
   refine pu 19 (.int .i64 ((gj : Nat) : Int)) ?_
   refine du (fun wz hS => ?_)
   have HSz := Lh hS
   clear hS
   go_upto_region 2 with fail
   obtain ⟨b, hb⟩ : ∃ b, lall o.kp.pr (.mk (fi : Nat) xs) ys = b := ⟨_, rfl⟩
   have hf : r = b := by rw [← Hr.out, Hpr1.out, Hpr2.out, decide_eq_true ⟨by omega, by have := Hfg.out; omega, hlt⟩, hb]; rfl
   have Hf := Lh hf
   have Hb := Lh hb
   clear hf hb
   refine bu 33 (fun w' => Upd w w' (fun j => j = gm) ∧ Memo o Ls Lt gm w') (fun wd hwd hbd => ?_) ?_
   · exact ⟨HSz.out.1.trans (Upd.low (hwd ▸ hbd) (fun j => j = gm)) (fun _ e => .inl e), HSz.out.2.low (hwd ▸ hbd)⟩
   refine pu 0 (.int .i64 ((gj : Nat) : Int)) ?_
   refine ru 1 (.bool true) (fun w' hw => ?_) ?_
   · simp [execOp, go_sem, hk1]
   refine pu 2 (.bool true) ?_
   refine pu 3 (.int .i64 (fi : Nat)) ?_
   refine pu 4 (.int .i64 ((gj : Nat) : Int)) ?_
   refine ru 5 (.bool true) (fun w' hw => ?_) ?_
   · simp [execOp, go_sem, q5]
   refine pu 6 (.bool true) ?_
   refine pu 7 (.bool true) ?_
   refine pu 8 (.pointer (some ⟨wb, 0, none⟩)) ?_
   refine pu 9 (.pointer (some ⟨wb, 0, none⟩)) ?_
   refine pu 10 (.pointer (some ⟨wb, 0, none⟩)) ?_
   refine pu 11 (.pointer (some ⟨wb, 1, none⟩)) ?_
   refine ru 12 (.slice (some ⟨pb, pq, none⟩) o.prec.length cp) (fun w' hw => ?_) ?_
   · have q1 := keepC hw.1 Hne.out hwl X1.out
     simp [execOp, go_sem, q1]
   refine pu 13 (.int .i64 (fi : Nat)) ?_
   refine ru 14 (.pointer (some ⟨pb, pq + fi, none⟩)) (fun w' hw => ?_) ?_
   · simp [execOp, go_sem, hf1, hf2]
   refine ru 15 (.int .i64 pf) (fun w' hw => ?_) ?_
   · have p1 := keepC hw.1 Hpne.out hpl P1.out
     simp [execOp, go_sem, p1]
   refine pu 16 (.pointer (some ⟨wb, 0, none⟩)) ?_
   refine pu 17 (.pointer (some ⟨wb, 0, none⟩)) ?_
   refine pu 18 (.pointer (some ⟨wb, 0, none⟩)) ?_
   refine pu 19 (.pointer (some ⟨wb, 1, none⟩)) ?_
   refine ru 20 (.slice (some ⟨pb, pq, none⟩) o.prec.length cp) (fun w' hw => ?_) ?_
   · have q1 := keepC hw.1 Hne.out hwl X1.out
     simp [execOp, go_sem, q1]
   refine pu 21 (.int .i64 ((gj : Nat) : Int)) ?_
   refine ru 22 (.pointer (some ⟨pb, pq + gj, none⟩)) (fun w' hw => ?_) ?_
   · simp [execOp, go_sem, hg1, hg2]
   refine ru 23 (.int .i64 pg) (fun w' hw => ?_) ?_
   · have p2 := keepC hw.1 Hpne.out hpl P2.out
     simp [execOp, go_sem, p2]
   refine ru 24 (.bool true) (fun w' hw => ?_) ?_
   · simp [execOp, go_sem, hlt]
   refine pu 25 (.bool true) ?_
   refine pu 26 (.bool true) ?_
   refine pu 27 (.pointer (some ⟨wb, 0, none⟩)) ?_
   refine pu 28 (.int .i64 (i : Nat)) ?_
   refine pu 29 (.int .i64 (k : Nat)) ?_
   refine cu 30 (.bool b) (fun w' hw => (Hal.out w' hw.1 hw.2).mono ?_) ?_
   · rintro e w2 ⟨rfl, hu, hm⟩
     exact ⟨by rw [Hb.out], hw.1.trans hu (fun _ e => .inl e), hm⟩
   refine pu 31 (.bool b) ?_
   refine pu 32 (.bool b) ?_
   refine du (fun wz hS => ?_)
   have HSy := Lh hS
   clear hS
   go_wp2_with fail
   go_ret
   exact ⟨by rw [Hf.out]; rfl, HSy.out.1, HSy.out.2⟩
 obtain ⟨r, hr⟩ : ∃ r, rRank o.kp.pr (.mk (fi : Nat) xs) (.mk ((gj : Nat) : Int) ys) = r := ⟨_, rfl⟩
 rw [hr]
 have hr : (decide (0 ≤ ((gj : Nat) : Int) ∧ ((fi : Nat) : Int) ≠ ((gj : Nat) : Int) ∧ o.kp.pr ((gj : Nat) : Int) < o.kp.pr (fi : Nat)) && lall o.kp.pr (.mk (fi : Nat) xs) ys) = r := hr
 have Hr := Lh hr
 have Hal := Lh (fun (w' : World) (hu : Upd w w' (fun b => b = gm)) (hm : Memo o Ls Lt gm w') => all_any hab i k (.mk (fi : Nat) xs) ((gj : Nat) : Int) ys w' hD hs ht hws hwt (hwk.upd hu) hm)
 have hcs := hwk.cells
 obtain ⟨x1, x4, x5, x6⟩ := hcs
 obtain ⟨ist, hitt, hpst⟩ : ∃ is, Lt[k]? = some (.mk ((gj : Nat) : Int) ys, is) ∧ PartsAt Lt is ys := by rw [PartAt] at ht; exact ht
 obtain ⟨tb, tq, T1, d1, T2, d2, hAt, hk1, htne, htl, t0, t1, t2, hrt1, hrt2, hnt⟩ := pl_at hwk.t hitt
 subst hAt
 have hk2 : ¬ ((Lt.length : Int) ≤ (k : Int)) := by omega
 obtain ⟨iss, hits, hpss⟩ : ∃ is, Ls[i]? = some (.mk ((fi : Nat) : Int) xs, is) ∧ PartsAt Ls is xs := by rw [PartAt] at hs; exact hs
 obtain ⟨sb, sq, S1, e1, S2, e2, hAs, hi1, hsne, hsl, s0, s1, s2, hrs1, hrs2, hns⟩ := pl_at hwk.s hits
 subst hAs
 have hi2 : ¬ ((Ls.length : Int) ≤ (i : Int)) := by omega
 have hwl := ltOf hwk.box
 have Hwk := Lh hwk
 have Hm := Lh hm
 have Hne := Lh hwk.ne
 have X1 := Lh x1
 have X4 := Lh x4
 have X5 := Lh x5
 have S0c := Lh s0
 have T0c := Lh t0
 have Hsne := Lh hsne
 have Htne := Lh htne
 clear hab hs ht hws hwt hwk hm hpss hpst hrs1 hrs2 hrt1 hrt2 hitt hits hr x1 x4 x5 x6 s0 s1 s2 t0 t1 t2 hsne htne hnt hns
 go_enter Tryz.func90, Tryz.ntmps90
 go_upto_region 1 with fail
 refine bu 20 (fun w' => Upd w w' (fun j => j = gm) ∧ Memo o Ls Lt gm w') (fun wd hwd hbd => ?_) ?_
 · exact ⟨Upd.low (hwd ▸ hbd) (fun j => j = gm), Hm.out.low (hwd ▸ hbd)⟩
 refine pu 0 (.pointer (some ⟨wb, 0, none⟩)) ?_
 refine pu 1 (.pointer (some ⟨wb, 0, none⟩)) ?_
 refine pu 2 (.pointer (some ⟨wb, 4, none⟩)) ?_
 refine ru 3 (.slice (some ⟨sb, sq, none⟩) Ls.length cs) (fun w' hw => ?_) ?_
 · have q4 := keepC hw.1 Hne.out hwl X4.out
   simp [execOp, go_sem, q4]
 refine pu 4 (.int .i64 (i : Nat)) ?_
 refine ru 5 (.pointer (some ⟨sb, sq + i * 3, none⟩)) (fun w' hw => ?_) ?_
 · simp [execOp, go_sem, hi1, hi2]
 refine pu 6 (.pointer (some ⟨sb, sq + i * 3, none⟩)) ?_
 refine pu 7 (.pointer (some ⟨sb, sq + i * 3, none⟩)) ?_
 refine ru 8 (.int .i64 (fi : Nat)) (fun w' hw => ?_) ?_
 · have q0 := keepC hw.1 Hsne.out hsl S0c.out
   simp [execOp, go_sem, q0]
 refine pu 9 (.pointer (some ⟨wb, 0, none⟩)) ?_
 refine pu 10 (.pointer (some ⟨wb, 0, none⟩)) ?_
 refine pu 11 (.pointer (some ⟨wb, 5, none⟩)) ?_
 refine ru 12 (.slice (some ⟨tb, tq, none⟩) Lt.length ct) (fun w' hw => ?_) ?_
 · have q5 := keepC hw.1 Hne.out hwl X5.out
   simp [execOp, go_sem, q5]
 refine pu 13 (.int .i64 (k : Nat)) ?_
 refine ru 14 (.pointer (some ⟨tb, tq + k * 3, none⟩)) (fun w' hw => ?_) ?_
 · simp [execOp, go_sem, hk1, hk2]
 refine pu 15 (.pointer (some ⟨tb, tq + k * 3, none⟩)) ?_
 refine pu 16 (.pointer (some ⟨tb, tq + k * 3, none⟩)) ?_
 refine ru 17 (.int .i64 ((gj : Nat) : Int)) (fun w' hw => ?_) ?_
 · have q6 := keepC hw.1 Htne.out htl T0c.out
   simp [execOp, go_sem, q6]
 refine pu 18 (.int .i64 (fi : Nat)) ?_
 refine pu 19 (.int .i64 ((gj : Nat) : Int)) ?_
 refine du (fun wz hS => ?_)
 have HSz := Lh hS
 clear hS
 go_upto_region 2 with fail
 have hf : r = false := by rw [← Hr.out, Hpr1.out, Hpr2.out, decide_eq_false (by omega)]; rfl
 have Hf := Lh hf
 clear hf
 refine bu 33 (fun w' => Upd w w' (fun j => j = gm) ∧ Memo o Ls Lt gm w') (fun wd hwd hbd => ?_) ?_
 · exact ⟨HSz.out.1.trans (Upd.low (hwd ▸ hbd) (fun j => j = gm)) (fun _ e => .inl e), HSz.out.2.low (hwd ▸ hbd)⟩
 refine pu 0 (.int .i64 ((gj : Nat) : Int)) ?_
 refine ru 1 (.bool true) (fun w' hw => ?_) ?_
 · simp [execOp, go_sem, hk1]
 refine pu 2 (.bool true) ?_
 refine pu 3 (.int .i64 (fi : Nat)) ?_
 refine pu 4 (.int .i64 ((gj : Nat) : Int)) ?_
 refine ru 5 (.bool true) (fun w' hw => ?_) ?_
 · simp [execOp, go_sem, q5]
 refine pu 6 (.bool true) ?_
 refine pu 7 (.bool true) ?_
 refine pu 8 (.pointer (some ⟨wb, 0, none⟩)) ?_
 refine pu 9 (.pointer (some ⟨wb, 0, none⟩)) ?_
 refine pu 10 (.pointer (some ⟨wb, 0, none⟩)) ?_
 refine pu 11 (.pointer (some ⟨wb, 1, none⟩)) ?_
 refine ru 12 (.slice (some ⟨pb, pq, none⟩) o.prec.length cp) (fun w' hw => ?_) ?_
 · have q1 := keepC hw.1 Hne.out hwl X1.out
   simp [execOp, go_sem, q1]
 refine pu 13 (.int .i64 (fi : Nat)) ?_
 refine ru 14 (.pointer (some ⟨pb, pq + fi, none⟩)) (fun w' hw => ?_) ?_
 · simp [execOp, go_sem, hf1, hf2]
 refine ru 15 (.int .i64 pf) (fun w' hw => ?_) ?_
 · have p1 := keepC hw.1 Hpne.out hpl P1.out
   simp [execOp, go_sem, p1]
 refine pu 16 (.pointer (some ⟨wb, 0, none⟩)) ?_
 refine pu 17 (.pointer (some ⟨wb, 0, none⟩)) ?_
 refine pu 18 (.pointer (some ⟨wb, 0, none⟩)) ?_
 refine pu 19 (.pointer (some ⟨wb, 1, none⟩)) ?_
 refine ru 20 (.slice (some ⟨pb, pq, none⟩) o.prec.length cp) (fun w' hw => ?_) ?_
 · have q1 := keepC hw.1 Hne.out hwl X1.out
   simp [execOp, go_sem, q1]
 refine pu 21 (.int .i64 ((gj : Nat) : Int)) ?_
 refine ru 22 (.pointer (some ⟨pb, pq + gj, none⟩)) (fun w' hw => ?_) ?_
 · simp [execOp, go_sem, hg1, hg2]
 refine ru 23 (.int .i64 pg) (fun w' hw => ?_) ?_
 · have p2 := keepC hw.1 Hpne.out hpl P2.out
   simp [execOp, go_sem, p2]
 refine ru 24 (.bool false) (fun w' hw => ?_) ?_
 · simp [execOp, go_sem, hlt]
 refine pu 25 (.bool false) ?_
 refine pu 26 (.bool false) ?_
 refine su 27 ?_
 refine su 28 ?_
 refine su 29 ?_
 refine su 30 ?_
 refine pu 31 (.bool false) ?_
 refine pu 32 (.bool false) ?_
 refine du (fun wz hS => ?_)
 have HSy := Lh hS
 clear hS
 go_wp2_with fail
 go_ret
 exact ⟨by rw [Hf.out]; rfl, HSy.out.1, HSy.out.2⟩
theorem llex_at (pr : Int → Int) {xs ys : List Tm} {k : Nat} (h1 : k < xs.length) (h2 : k < ys.length) : llex pr (xs.drop k) (ys.drop k) = if eqB xs[k] ys[k] = true then llex pr (xs.drop (k + 1)) (ys.drop (k + 1)) else lgt pr xs[k] ys[k] := by
 rw [List.drop_eq_getElem_cons h1, List.drop_eq_getElem_cons h2, llex]
 by_cases h : xs[k] = ys[k]
 · rw [if_pos h, if_pos ((eqB_iff _ _).2 h)]
 rw [if_neg h, if_neg (fun e => h ((eqB_iff _ _).1 e))]
theorem BoxN.set3 {b : Nat} {t : TypeId} {x y z : Value} {w : World} (h : BoxN b t #[x, y, z] w) (u v q : Value) : BoxN b t #[u, v, q] (((w.setCell ⟨b, 0, none⟩ u).setCell ⟨b, 1, none⟩ v).setCell ⟨b, 2, none⟩ q) ∧ Upd w (((w.setCell ⟨b, 0, none⟩ u).setCell ⟨b, 1, none⟩ v).setCell ⟨b, 2, none⟩ q) (fun k => k = b) := by
 have h1 : (w.setCell ⟨b, 0, none⟩ u).heap[b]? = some (.cells #[u, y, z] t (0, 0)) := by simpa using heap_setCell_same w b 0 _ _ u h
 have h2 : ((w.setCell ⟨b, 0, none⟩ u).setCell ⟨b, 1, none⟩ v).heap[b]? = some (.cells #[u, v, z] t (0, 0)) := by simpa using heap_setCell_same _ b 1 _ _ v h1
 have h3 : (((w.setCell ⟨b, 0, none⟩ u).setCell ⟨b, 1, none⟩ v).setCell ⟨b, 2, none⟩ q).heap[b]? = some (.cells #[u, v, q] t (0, 0)) := by simpa using heap_setCell_same _ b 2 _ _ q h2
 exact ⟨h3, (((Upd.refl w (fun k => k = b)).setCell _ _ (.inl rfl)).setCell _ _ (.inl rfl)).setCell _ _ (.inl rfl)⟩
theorem BoxN.three {b : Nat} {t : TypeId} {x y z : Value} {w : World} (h : BoxN b t #[x, y, z] w) : w.cell? ⟨b, 0, none⟩ = some x ∧ w.cell? ⟨b, 1, none⟩ = some y ∧ w.cell? ⟨b, 2, none⟩ = some z ∧ ∀ o, w.frozen? ⟨b, o, none⟩ = false :=
 ⟨h.cell 0, h.cell 1, h.cell 2, fun o => h.free o⟩
theorem boxes_any (W : World) (o : Obj) {b1 b2 : Nat} (hb : b1 = W.heap.size ∧ b2 = W.heap.size + 1 ∨ b2 = W.heap.size ∧ b1 = W.heap.size + 1) : ((W.alloc o).alloc o).heap[b1]? = some o ∧ ((W.alloc o).alloc o).heap[b2]? = some o ∧ b1 ≠ b2 ∧ W.heap.size ≤ b1 ∧ W.heap.size ≤ b2 ∧ ((W.alloc o).alloc o).heap.size = W.heap.size + 2 := by
 obtain ⟨h1, h2, -, hz⟩ := boxes2 W o o
 rcases hb with ⟨rfl, rfl⟩ | ⟨rfl, rfl⟩
 · exact ⟨h1, h2, by omega, by omega, by omega, hz⟩
 exact ⟨h2, h1, by omega, by omega, by omega, hz⟩
theorem lexical_any {ar : Int → Option Nat} {o : Od} {Ls Lt : PL} {wb gm : Nat} {Ap Aw As At : Option Addr} {cp cw cs ct : Nat} {D : Nat} (hab : AbvH ar o Ls Lt wb gm Ap Aw As At cp cw cs ct D (WkR o Ls Lt gm)) (i k : Nat) (f g : Int) (xs ys : List Tm) (w : World) (hD : sizeT (.mk f xs) + sizeT (.mk g ys) ≤ D) (hf0 : 0 ≤ f)
 (hs : PartAt Ls i (.mk f xs)) (ht : PartAt Lt k (.mk g ys)) (hws : wfT ar (.mk f xs)) (hwt : wfT ar (.mk g ys)) (hwk : Wk o Ls Lt wb gm Ap Aw As At cp cw cs ct w) (hm : Memo o Ls Lt gm w) :
 Calls Tryz.prog 91 #[.pointer (some ⟨wb, 0, none⟩), .int .i64 (i : Nat), .int .i64 (k : Nat)] w (WkR o Ls Lt gm (rLex o.kp.pr (.mk f xs) (.mk g ys)) w) := by
 have Hal := Lh (fun (w' : World) (hu : Upd w w' (fun b => b = gm)) (hm : Memo o Ls Lt gm w') => all_any hab i k (.mk f xs) g ys w' hD hs ht hws hwt (hwk.upd hu) hm)
 have hcs := hwk.cells
 obtain ⟨x1, x4, x5, x6⟩ := hcs
 obtain ⟨ist, hitt, hpst⟩ : ∃ is, Lt[k]? = some (.mk g ys, is) ∧ PartsAt Lt is ys := by rw [PartAt] at ht; exact ht
 obtain ⟨tb, tq, T1, d1, T2, d2, hAt, hk1, htne, htl, t0, t1, t2, hrt1, hrt2, hnt⟩ := pl_at hwk.t hitt
 subst hAt
 have hk2 : ¬ ((Lt.length : Int) ≤ (k : Int)) := by omega
 obtain ⟨iss, hits, hpss⟩ : ∃ is, Ls[i]? = some (.mk f xs, is) ∧ PartsAt Ls is xs := by rw [PartAt] at hs; exact hs
 obtain ⟨sb, sq, S1, e1, S2, e2, hAs, hi1, hsne, hsl, s0, s1, s2, hrs1, hrs2, hns⟩ := pl_at hwk.s hits
 subst hAs
 have hi2 : ¬ ((Ls.length : Int) ≤ (i : Int)) := by omega
 have hls := hpss.len
 have hlt := hpst.len
 have hwl := ltOf hwk.box
 have hgl := hm.lt
 obtain ⟨r, hr⟩ : ∃ r, rLex o.kp.pr (.mk f xs) (.mk g ys) = r := ⟨_, rfl⟩
 rw [hr]
 have hr : (decide (f = g) && lall o.kp.pr (.mk f xs) ys && llex o.kp.pr xs ys) = r := hr
 have Hr := Lh hr
 have Hab := Lh hab
 have Hws := Lh hws
 have Hwt := Lh hwt
 have Hwk := Lh hwk
 have Hm := Lh hm
 have Hpss := Lh hpss
 have Hpst := Lh hpst
 have Hrs1 := Lh hrs1
 have Hrs2 := Lh hrs2
 have Hrt1 := Lh hrt1
 have Hrt2 := Lh hrt2
 have Hls := Lh hls
 have Hlt := Lh hlt
 have X4 := Lh x4
 have X5 := Lh x5
 have S0c := Lh s0
 have S1c := Lh s1
 have S2c := Lh s2
 have T0c := Lh t0
 have T1c := Lh t1
 have T2c := Lh t2
 clear hab hs ht hws hwt hwk hm hpss hpst hrs1 hrs2 hrt1 hrt2 hitt hits hr hls hlt x1 x4 x5 x6 s0 s1 s2 t0 t1 t2
 go_enter Tryz.func91, Tryz.ntmps91
 go_upto_region 1 with fail
 refine rg 18 (fun _ w' => Below w.heap.size w w') ?_
 intro wd hwd hbd
 refine ⟨?_, fun hS => ?_⟩
 · exact hwd ▸ hbd
 refine ta 0 (.pointer (some ⟨wb, 0, none⟩)) hS fun hS => ?_
 refine ta 1 (.pointer (some ⟨wb, 0, none⟩)) hS fun hS => ?_
 refine ta 2 (.pointer (some ⟨wb, 4, none⟩)) hS fun hS => ?_
 refine tk 3 (.slice (some ⟨sb, sq, none⟩) Ls.length cs) hS ?_ fun hS => ?_
 · intro w' L hn hw
   have q4 := (hw.cell (p := ⟨wb, 4, none⟩) hwl).trans X4.out
   simp [execOp, go_sem, q4]
 refine ta 4 (.int .i64 (i : Nat)) hS fun hS => ?_
 refine tk 5 (.pointer (some ⟨sb, sq + i * 3, none⟩)) hS ?_ fun hS => ?_
 · intros; simp [execOp, go_sem, hi1, hi2]
 refine tk 6 (.agg #[.int .i64 f, .slice S1 xs.length e1, .slice S2 iss.length e2]) hS ?_ fun hS => ?_
 · intro w' L hn hw
   have p0 := (hw.cell (p := ⟨sb, sq + i * 3, none⟩) hsl).trans S0c.out
   have p1 := (hw.cell (p := ⟨sb, sq + i * 3 + 1, none⟩) hsl).trans S1c.out
   have p2 := (hw.cell (p := ⟨sb, sq + i * 3 + 2, none⟩) hsl).trans S2c.out
   simp [execOp, go_sem, p0, p1, p2]
 refine ta 7 (.pointer (some ⟨wb, 0, none⟩)) hS fun hS => ?_
 refine ta 8 (.pointer (some ⟨wb, 0, none⟩)) hS fun hS => ?_
 refine ta 9 (.pointer (some ⟨wb, 5, none⟩)) hS fun hS => ?_
 refine tk 10 (.slice (some ⟨tb, tq, none⟩) Lt.length ct) hS ?_ fun hS => ?_
 · intro w' L hn hw
   have q5 := (hw.cell (p := ⟨wb, 5, none⟩) hwl).trans X5.out
   simp [execOp, go_sem, q5]
 refine ta 11 (.int .i64 (k : Nat)) hS fun hS => ?_
 refine tk 12 (.pointer (some ⟨tb, tq + k * 3, none⟩)) hS ?_ fun hS => ?_
 · intros; simp [execOp, go_sem, hk1, hk2]
 refine tk 13 (.agg #[.int .i64 g, .slice T1 ys.length d1, .slice T2 ist.length d2]) hS ?_ fun hS => ?_
 · intro w' L hn hw
   have p3 := (hw.cell (p := ⟨tb, tq + k * 3, none⟩) htl).trans T0c.out
   have p4 := (hw.cell (p := ⟨tb, tq + k * 3 + 1, none⟩) htl).trans T1c.out
   have p5 := (hw.cell (p := ⟨tb, tq + k * 3 + 2, none⟩) htl).trans T2c.out
   simp [execOp, go_sem, p3, p4, p5]
 refine wpAnyS_allocs 14 15 (o1 := { dst := some 7, op := Op.alloc 134, type := 0, pos := "lpo.go:112", after := #[], guard := none }) (o2 := { dst := some 8, op := Op.alloc 134, type := 0, pos := "lpo.go:112", after := #[], guard := none }) (d1 := 7) (d2 := 8) (ob := (.cells #[.int .i64 0, .slice none 0 0, .slice none 0 0] 134)) (L' := #[true, true, true, true, true, true, true, true, true, true, true, true, true, true, true, true, false, false]) (by kernel_rfl) (by kernel_rfl) (by kernel_rfl) rfl rfl rfl rfl rfl rfl rfl rfl (by decide) (fun a w => by simp [execOp, go_sem]) (fun a w => by simp [execOp, go_sem]) ?s1 ?s2 ?s12 (fun b14 b15 hb14 => ?_)
 case s1 => exact hS.trans ((below_box _ _).mono hS.size)
 case s2 => exact hS.trans ((below_box _ _).mono hS.size)
 case s12 => exact (hS.trans ((below_box _ _).mono hS.size)).trans ((below_box _ _).mono (by have := hS.size; simp; omega))
 have hSw := hS
 obtain ⟨e1', e2', e3, e4, e5, e6⟩ := boxes_any wd _ hb14
 have hlow8 : Below w.heap.size w ((wd.alloc (.cells #[.int .i64 0, .slice none 0 0, .slice none 0 0] 134)).alloc (.cells #[.int .i64 0, .slice none 0 0, .slice none 0 0] 134)) := (hS.trans ((below_box _ _).mono hS.size)).trans ((below_box _ _).mono (by have := hS.size; simp; omega))
 generalize (wd.alloc (.cells #[.int .i64 0, .slice none 0 0, .slice none 0 0] 134)).alloc (.cells #[.int .i64 0, .slice none 0 0, .slice none 0 0] 134) = w7 at e1' e2' e6 hlow8 ⊢
 have e1' : BoxN b14 134 #[.int .i64 0, .slice none 0 0, .slice none 0 0] w7 := e1'
 have e2' : BoxN b15 134 #[.int .i64 0, .slice none 0 0, .slice none 0 0] w7 := e2'
 simp only [Act.put, List.setIfInBounds_toArray, List.set_cons_zero, List.set_cons_succ]
 refine so 16 ?_
 obtain ⟨q0, q1, q2, q3⟩ := e1'.three
 obtain ⟨h1, u1⟩ := e1'.set3 (.int .i64 f) (.slice S1 xs.length e1) (.slice S2 iss.length e2)
 refine wp_skip (w' := ((w7.setCell ⟨b14, 0, none⟩ (.int .i64 f)).setCell ⟨b14, 1, none⟩ (.slice S1 xs.length e1)).setCell ⟨b14, 2, none⟩ (.slice S2 iss.length e2)) (by simp [execOp, go_sem, q0, q1, q2, q3]) ?_
 have h2 := e2'.upd u1 (fun e => e3 e.symm)
 have hz8 := u1.size
 generalize ((w7.setCell ⟨b14, 0, none⟩ (.int .i64 f)).setCell ⟨b14, 1, none⟩ (.slice S1 xs.length e1)).setCell ⟨b14, 2, none⟩ (.slice S2 iss.length e2) = w8 at h1 u1 h2 hz8 ⊢
 refine gS ?_ fun hS => ?_
 · exact hlow8.trans (u1.toLow (by have := hSw.size; omega) (by rintro b rfl; have := hSw.size; omega))
 refine so 17 ?_
 obtain ⟨q0, q1, q2, q3⟩ := h2.three
 obtain ⟨h3, u2⟩ := h2.set3 (.int .i64 g) (.slice T1 ys.length d1) (.slice T2 ist.length d2)
 refine wp_skip (w' := ((w8.setCell ⟨b15, 0, none⟩ (.int .i64 g)).setCell ⟨b15, 1, none⟩ (.slice T1 ys.length d1)).setCell ⟨b15, 2, none⟩ (.slice T2 ist.length d2)) (by simp [execOp, go_sem, q0, q1, q2, q3]) ?_
 have h4 := h1.upd u2 e3
 generalize ((w8.setCell ⟨b15, 0, none⟩ (.int .i64 g)).setCell ⟨b15, 1, none⟩ (.slice T1 ys.length d1)).setCell ⟨b15, 2, none⟩ (.slice T2 ist.length d2) = w9 at h3 u2 h4 ⊢
 refine gS ?_ fun hS => ?_
 · exact hS.trans (u2.toLow (by have := hSw.size; omega) (by rintro b rfl; have := hSw.size; omega))
 refine dn ?_
 have hb14l := ltOf h4
 have hb15l := ltOf h3
 have hb14g : w.heap.size ≤ b14 := by have := hSw.size; omega
 have hb15g : w.heap.size ≤ b15 := by have := hSw.size; omega
 have H14 := Lh h4
 have H15 := Lh h3
 have Hlow := Lh hS
 obtain ⟨y0, y1, y2, -⟩ := h4.three
 obtain ⟨z0, z1, z2, -⟩ := h3.three
 clear e1' e2' e3 e4 e5 e6 hlow8 h1 h2 h3 h4 u1 u2 hS hSw hwd hbd q0 q1 q2 q3 hb14
 have hb14 : b14 ≠ gm := by omega
 have hb15 : b15 ≠ gm := by omega
 have Hm9 := Lh (Hm.out.low Hlow.out)
 by_cases hfg : f = g
 · have q : (f != g) = false := by rw [hfg]; simp
   obtain ⟨b, hb⟩ : ∃ b, lall o.kp.pr (.mk f xs) ys = b := ⟨_, rfl⟩
   have hal := Hal.out w9 (Upd.low Hlow.out _) Hm9.out
   rw [hb] at hal
   have Hal9 := Lh hal
   have hrr := Hr.out
   rw [decide_eq_true hfg, hb, Bool.true_and] at hrr
   have Hrr := Lh hrr
   have hll : xs.length = ys.length := by subst hfg; exact Hws.out.len Hwt.out hf0
   have Hll := Lh hll
   clear hal hb hrr hfg hll
   go_wp2_with fail
   refine Hal9.out.mono ?_
   rintro e w10 ⟨rfl, hu10, hm10⟩
   have hz10 := hu10.size
   have y1 := keepC hu10 hb14 hb14l y1
   have y2 := keepC hu10 hb14 hb14l y2
   have z1 := keepC hu10 hb15 hb15l z1
   have z2 := keepC hu10 hb15 hb15l z2
   have Hu10 := Lh hu10
   have Hm10 := Lh hm10
   clear hu10 hm10 y0 z0
   cases b with
   | false =>
     have hf : r = false := by rw [← Hrr.out]; rfl
     have Hf := Lh hf
     clear hf
     go_wp2_with fail
     go_ret
     exact ⟨by rw [Hf.out]; rfl, (Upd.low Hlow.out _).trans Hu10.out (fun _ e => .inl e), Hm10.out⟩
   | true =>
     have hmin : ¬ ist.length < iss.length := by have := Hll.out; have := Hls.out; have := Hlt.out; omega
     go_wp2_with fail
     have C141 := Lh (H14.out.cell 1)
     have C142 := Lh (H14.out.cell 2)
     have C151 := Lh (H15.out.cell 1)
     have C152 := Lh (H15.out.cell 2)
     clear y1 y2 z1 z2
     go_loopw [45] (fun c wr => ∃ j : Nat, j ≤ iss.length ∧ c = .int .i64 j ∧ llex o.kp.pr (xs.drop j) (ys.drop j) = r ∧ Upd w9 wr (fun b => b = gm) ∧ Memo o Ls Lt gm wr) (fun c _ => iss.length - (intOf c).toNat)
     case atStart => exact ⟨0, Nat.zero_le _, rfl, by rw [← Hrr.out]; rfl, Hu10.out, Hm10.out⟩
     obtain ⟨j, hj, rfl, hlx, hur, hmr⟩ := hrel
     have hzr := hur.size
     have Hur := Lh hur
     have Hmr := Lh hmr
     have Hlx := Lh hlx
     clear hur hmr hlx
     by_cases hlt : j < iss.length
     · have hjx : j < xs.length := by have := Hls.out; omega
       have hjy : j < ys.length := by have := Hll.out; omega
       have hjt : j < ist.length := by omega
       have hlt2 : ¬ ((iss.length : Int) ≤ (j : Int)) := by omega
       have hjt2 : ¬ ((ist.length : Int) ≤ (j : Int)) := by omega
       have hjx2 : ¬ ((xs.length : Int) ≤ (j : Int)) := by omega
       have hjy2 : ¬ ((ys.length : Int) ≤ (j : Int)) := by omega
       obtain ⟨a1, ha1, hpa1⟩ := Hpss.out.at_ j hlt hjx
       obtain ⟨a2, ha2, hpa2⟩ := Hpst.out.at_ j hjt hjy
       obtain ⟨ib1, io1, hS2, hi1ne, hil1, c1⟩ := int_at Hrs2.out hlt
       obtain ⟨ib2, io2, hT2, hi2ne, hil2, c2⟩ := int_at Hrt2.out hjt
       subst hS2 hT2
       rw [ha1] at c1
       rw [ha2] at c2
       have c1 := (Hlow.out.cell (p := ⟨ib1, io1 + j, none⟩) hil1).trans c1
       have c2 := (Hlow.out.cell (p := ⟨ib2, io2 + j, none⟩) hil2).trans c2
       obtain ⟨ab1, off1, f1, us1, B1, q1, hS1, hxk, hne1, hal1, k0, k1, hru1⟩ := tmP_at Hrs1.out hjx
       obtain ⟨ab2, off2, f2, us2, B2, q2, hT1, hyk, hne2, hal2, l0, l1, hru2⟩ := tmP_at Hrt1.out hjy
       subst hS1 hT1
       have k0 := (Hlow.out.cell (p := ⟨ab1, off1 + j * 2, none⟩) hal1).trans k0
       have k1 := (Hlow.out.cell (p := ⟨ab1, off1 + j * 2 + 1, none⟩) hal1).trans k1
       have l0 := (Hlow.out.cell (p := ⟨ab2, off2 + j * 2, none⟩) hal2).trans l0
       have l1 := (Hlow.out.cell (p := ⟨ab2, off2 + j * 2 + 1, none⟩) hal2).trans l1
       have hlw := Hlow.out.size
       have hil1 : ib1 < w9.heap.size := by omega
       have hil2 : ib2 < w9.heap.size := by omega
       have hal1 : ab1 < w9.heap.size := by omega
       have hal2 : ab2 < w9.heap.size := by omega
       have hsz1 := sizeT_arg (f := f) (List.getElem_mem hjx)
       have hsz2 := sizeT_arg (f := g) (List.getElem_mem hjy)
       have hwx := Hws.out.args (List.getElem_mem hjx)
       have hwy := Hwt.out.args (List.getElem_mem hjy)
       have hu9 : ∀ w', Upd w9 w' (fun b => b = gm) → Upd w w' (fun b => b = gm) := fun w' hu => (Upd.low Hlow.out _).trans hu (fun _ e => .inl e)
       have hcl := fun (w' : World) (hu : Upd w9 w' (fun b => b = gm)) (hm : Memo o Ls Lt gm w') => Hab.out a1 a2 xs[j] ys[j] w' (by omega) hpa1 hpa2 hwx hwy (Hwk.out.upd (hu9 w' hu)) hm
       rw [hxk, hyk] at hcl
       have hsa := fun (w' : World) (hu : Upd w9 w' (fun b => b = gm)) => same_tm f1 f2 us1 us2 (.slice B1 us1.length q1) (.slice B2 us2.length q2) w'.heap.size w' (hru1.upd (hu9 w' hu) (fun b hb _ => hb)).rd' (hru2.upd (hu9 w' hu) (fun b hb _ => hb)).rd' (Nat.le_refl _)
       have hat := llex_at o.kp.pr hjx hjy
       rw [Hlx.out, hxk, hyk] at hat
       obtain ⟨b2, hb2⟩ : ∃ b, lgt o.kp.pr (.mk f1 us1) (.mk f2 us2) = b := ⟨_, rfl⟩
       rw [hb2] at hcl hat
       have Hcl := Lh hcl
       have Hsa := Lh hsa
       have Hat := Lh hat
       have K0 := Lh k0
       have K1 := Lh k1
       have L0 := Lh l0
       have L1 := Lh l1
       have CI1 := Lh c1
       have CI2 := Lh c2
       have Hne1 := Lh hne1
       have Hne2 := Lh hne2
       clear hcl hsa hat hb2 hpa1 hpa2 ha1 ha2 hsz1 hsz2 hwx hwy hxk hyk k0 k1 l0 l1 hru1 hru2 hne1 hne2 c1 c2 hu9
       cases hb1 : eqB (.mk f1 us1) (.mk f2 us2) with
       | true =>
         rw [hb1] at Hsa
         have hat := Hat.out
         rw [if_pos hb1] at hat
         have Hn := Lh hat
         clear hat hb1
         go_upto_region 7 with fail
         refine bu 14 (fun w' => Upd w9 w' (fun j => j = gm) ∧ Memo o Ls Lt gm w') (fun wd hwd hbd => ?_) ?_
         · exact ⟨Hur.out.trans (Upd.low (hwd ▸ hbd) (fun j => j = gm)) (fun _ e => .inl e), Hmr.out.low (hwd ▸ hbd)⟩
         refine pu 0 (.pointer (some ⟨b14, 0, none⟩)) ?_
         refine pu 1 (.pointer (some ⟨b14, 1, none⟩)) ?_
         refine ru 2 (.slice (some ⟨ab1, off1, none⟩) xs.length e1) (fun w' hw => ?_) ?_
         · have z1 := keepC hw.1 hb14 hb14l C141.out
           simp [execOp, go_sem, z1]
         refine pu 3 (.int .i64 (j : Nat)) ?_
         refine ru 4 (.pointer (some ⟨ab1, off1 + j * 2, none⟩)) (fun w' hw => ?_) ?_
         · simp [execOp, go_sem, hjx, hjx2]
         refine ru 5 (.agg #[.int .i64 f1, .slice B1 us1.length q1]) (fun w' hw => ?_) ?_
         · have k0 := keepC hw.1 Hne1.out hal1 K0.out
           have k1 := keepC hw.1 Hne1.out hal1 K1.out
           simp [execOp, go_sem, k0, k1]
         refine pu 6 (.pointer (some ⟨b15, 0, none⟩)) ?_
         refine pu 7 (.pointer (some ⟨b15, 1, none⟩)) ?_
         refine ru 8 (.slice (some ⟨ab2, off2, none⟩) ys.length d1) (fun w' hw => ?_) ?_
         · have z2 := keepC hw.1 hb15 hb15l C151.out
           simp [execOp, go_sem, z2]
         refine pu 9 (.int .i64 (j : Nat)) ?_
         refine ru 10 (.pointer (some ⟨ab2, off2 + j * 2, none⟩)) (fun w' hw => ?_) ?_
         · simp [execOp, go_sem, hjy, hjy2]
         refine ru 11 (.agg #[.int .i64 f2, .slice B2 us2.length q2]) (fun w' hw => ?_) ?_
         · have l0 := keepC hw.1 Hne2.out hal2 L0.out
           have l1 := keepC hw.1 Hne2.out hal2 L1.out
           simp [execOp, go_sem, l0, l1]
         refine cu 12 (.bool true) (fun w' hw => (Hsa.out w' hw.1).mono ?_) ?_
         · rintro e w2 ⟨rfl, hb⟩
           exact ⟨rfl, hw.1.trans (Upd.low hb (fun j => j = gm)) (fun _ e => .inl e), hw.2.low hb⟩
         refine pu 13 (.bool false) ?_
         refine du (fun wz hS => ?_)
         have HSz := Lh hS
         clear hS
         go_wp2_with fail
         go_roundw
         case rel => exact ⟨j + 1, by omega, by go_num, Hn.out.symm, HSz.out.1, HSz.out.2⟩
         case measure => simp [intOf]; omega
       | false =>
         rw [hb1] at Hsa
         have hat := Hat.out
         rw [if_neg (by rw [hb1]; decide)] at hat
         have Hn := Lh hat
         clear hat hb1
         go_upto_region 7 with fail
         refine bu 14 (fun w' => Upd w9 w' (fun j => j = gm) ∧ Memo o Ls Lt gm w') (fun wd hwd hbd => ?_) ?_
         · exact ⟨Hur.out.trans (Upd.low (hwd ▸ hbd) (fun j => j = gm)) (fun _ e => .inl e), Hmr.out.low (hwd ▸ hbd)⟩
         refine pu 0 (.pointer (some ⟨b14, 0, none⟩)) ?_
         refine pu 1 (.pointer (some ⟨b14, 1, none⟩)) ?_
         refine ru 2 (.slice (some ⟨ab1, off1, none⟩) xs.length e1) (fun w' hw => ?_) ?_
         · have z1 := keepC hw.1 hb14 hb14l C141.out
           simp [execOp, go_sem, z1]
         refine pu 3 (.int .i64 (j : Nat)) ?_
         refine ru 4 (.pointer (some ⟨ab1, off1 + j * 2, none⟩)) (fun w' hw => ?_) ?_
         · simp [execOp, go_sem, hjx, hjx2]
         refine ru 5 (.agg #[.int .i64 f1, .slice B1 us1.length q1]) (fun w' hw => ?_) ?_
         · have k0 := keepC hw.1 Hne1.out hal1 K0.out
           have k1 := keepC hw.1 Hne1.out hal1 K1.out
           simp [execOp, go_sem, k0, k1]
         refine pu 6 (.pointer (some ⟨b15, 0, none⟩)) ?_
         refine pu 7 (.pointer (some ⟨b15, 1, none⟩)) ?_
         refine ru 8 (.slice (some ⟨ab2, off2, none⟩) ys.length d1) (fun w' hw => ?_) ?_
         · have z2 := keepC hw.1 hb15 hb15l C151.out
           simp [execOp, go_sem, z2]
         refine pu 9 (.int .i64 (j : Nat)) ?_
         refine ru 10 (.pointer (some ⟨ab2, off2 + j * 2, none⟩)) (fun w' hw => ?_) ?_
         · simp [execOp, go_sem, hjy, hjy2]
         refine ru 11 (.agg #[.int .i64 f2, .slice B2 us2.length q2]) (fun w' hw => ?_) ?_
         · have l0 := keepC hw.1 Hne2.out hal2 L0.out
           have l1 := keepC hw.1 Hne2.out hal2 L1.out
           simp [execOp, go_sem, l0, l1]
         refine cu 12 (.bool false) (fun w' hw => (Hsa.out w' hw.1).mono ?_) ?_
         · rintro e w2 ⟨rfl, hb⟩
           exact ⟨rfl, hw.1.trans (Upd.low hb (fun j => j = gm)) (fun _ e => .inl e), hw.2.low hb⟩
         refine pu 13 (.bool true) ?_
         refine du (fun wz hS => ?_)
         have HSz := Lh hS
         clear hS
         go_upto_region 8 with fail
         refine bu 13 (fun w' => Upd w9 w' (fun j => j = gm) ∧ Memo o Ls Lt gm w') (fun wd hwd hbd => ?_) ?_
         · exact ⟨HSz.out.1.trans (Upd.low (hwd ▸ hbd) (fun j => j = gm)) (fun _ e => .inl e), HSz.out.2.low (hwd ▸ hbd)⟩
         refine pu 0 (.pointer (some ⟨wb, 0, none⟩)) ?_
         refine pu 1 (.pointer (some ⟨b14, 2, none⟩)) ?_
         refine ru 2 (.slice (some ⟨ib1, io1, none⟩) iss.length e2) (fun w' hw => ?_) ?_
         · have z1 := keepC hw.1 hb14 hb14l C142.out
           simp [execOp, go_sem, z1]
         refine pu 3 (.int .i64 (j : Nat)) ?_
         refine ru 4 (.pointer (some ⟨ib1, io1 + j, none⟩)) (fun w' hw => ?_) ?_
         · simp [execOp, go_sem, hlt, hlt2]
         refine ru 5 (.int .i64 (a1 : Nat)) (fun w' hw => ?_) ?_
         · have k0 := keepC hw.1 hi1ne hil1 CI1.out
           simp [execOp, go_sem, k0]
         refine pu 6 (.pointer (some ⟨b15, 2, none⟩)) ?_
         refine ru 7 (.slice (some ⟨ib2, io2, none⟩) ist.length d2) (fun w' hw => ?_) ?_
         · have z2 := keepC hw.1 hb15 hb15l C152.out
           simp [execOp, go_sem, z2]
         refine pu 8 (.int .i64 (j : Nat)) ?_
         refine ru 9 (.pointer (some ⟨ib2, io2 + j, none⟩)) (fun w' hw => ?_) ?_
         · simp [execOp, go_sem, hjt, hjt2]
         refine ru 10 (.int .i64 (a2 : Nat)) (fun w' hw => ?_) ?_
         · have k1 := keepC hw.1 hi2ne hil2 CI2.out
           simp [execOp, go_sem, k1]
         refine cu 11 (.bool b2) (fun w' hw => (Hcl.out w' hw.1 hw.2).mono ?_) ?_
         · rintro e w2 ⟨rfl, hu, hm⟩
           exact ⟨rfl, hw.1.trans hu (fun _ e => .inl e), hm⟩
         refine pu 12 (.bool b2) ?_
         refine du (fun wz hS => ?_)
         have HSy := Lh hS
         clear hS
         go_wp2_with fail
         go_ret
         exact ⟨by rw [Hn.out]; rfl, (Upd.low Hlow.out _).trans HSy.out.1 (fun _ e => .inl e), HSy.out.2⟩
     have hkk : j = xs.length := by have := Hls.out; omega
     have hf : r = false := by
      have := Hlx.out
      rw [hkk, List.drop_length, llex] at this
      exact this.symm
     have Hf := Lh hf
     have v1 := keepC Hur.out hb14 hb14l C142.out
     have v2 := keepC Hur.out hb15 hb15l C152.out
     have v1 : wr.cell? ⟨b14, 2, none⟩ = some (.slice S2 iss.length e2) := v1
     have v2 : wr.cell? ⟨b15, 2, none⟩ = some (.slice T2 ist.length d2) := v2
     have hmin2 : ¬ ist.length < iss.length := hmin
     clear hf hkk
     go_wp2_with fail
     go_ret
     exact ⟨by rw [Hf.out]; rfl, (Upd.low Hlow.out _).trans Hur.out (fun _ e => .inl e), Hmr.out⟩
 have q : (f != g) = true := by rw [bne_iff_ne]; exact hfg
 have hf : r = false := by rw [← Hr.out, decide_eq_false hfg]; rfl
 have Hf := Lh hf
 clear hf hfg
 go_wp2_with fail
 go_ret
 exact ⟨by rw [Hf.out]; rfl, Upd.low Hlow.out _, Hm9.out⟩
end Go.Proofs.YtbkpkahhdlomiaaGreat
