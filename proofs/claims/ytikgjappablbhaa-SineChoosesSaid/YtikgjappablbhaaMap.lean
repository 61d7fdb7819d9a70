/-
  A map of the call's own, whatever its keys, as a function from keys to values ('MapF'); what a lookup answers, what a store does. It imports nothing of the program.
-/
import Derived.Test.YtikgjappablbhaaRd
import Derived.Maps.Own
namespace Go.Proofs.Ytikgjappablbhaa
open Go.RowKit

theorem findNow_none {K : Type} {d : TypeDesc} {enc : K → Value} (hn : ∀ x y, Instr.sameNow d (enc x) (enc y) = none) (x : K) (kv : List (K × Value)) (es : List MapEntry) (i : Nat) (h : es.map (fun e => (e.key, e.val)) = kv.map (fun p => (enc p.1, p.2))) :
    Instr.findNow d (enc x) es i = none ∨ (es = [] ∧ kv = []) := by
  cases es with
  | nil => right; exact ⟨rfl, by simpa using h.symm⟩
  | cons e es =>
    left
    cases kv with
    | nil => simp at h
    | cons p kv =>
      simp only [List.map_cons, List.cons.injEq, Prod.mk.injEq] at h
      simp [Instr.findNow, h.1.1, hn]

section
variable {K : Type} [DecidableEq K]

/-- The first entry with a key, and its number. -/
def findIx (x : K) : List (K × Value) → Nat → Option (Nat × Value)
  | [], _ => none
  | p :: r, i => if x = p.1 then some (i, p.2) else findIx x r (i + 1)

/-- What the model's laws on keys come to, for keys that are written so. -/
structure KeyTy (P : Program) (k : TypeId) (enc : K → Value) : Prop where
  check : ∀ (em : Bool) (w : World) (x : K), (Instr.checkKey em 10000 k (enc x)).run P w = .ok () w
  find : ∀ (w : World) (x : K) (kv : List (K × Value)) (es : List MapEntry), es.map (fun e => (e.key, e.val)) = kv.map (fun p => (enc p.1, p.2)) → (Instr.findKey k (enc x) es).run P w = .ok (findIx x kv 0) w
  stays : ∀ (w : World) (x : K), (Instr.keyThatStays (enc x) (enc x)).run P w = .ok (enc x) w

theorem findAsking_run {P : Program} {k : TypeId} {enc : K → Value} (heq : ∀ (w : World) (x y : K), (Op.equal k (enc x) (enc y)).run P w = .ok (decide (x = y)) w) (w : World) (x : K) :
    ∀ (kv : List (K × Value)) (es : List MapEntry) (i : Nat), es.map (fun e => (e.key, e.val)) = kv.map (fun p => (enc p.1, p.2)) → (Instr.findAsking k (enc x) es i).run P w = .ok (findIx x kv i) w
  | [], es, i, h => by
    have : es = [] := by simpa using h
    subst this
    simp [Instr.findAsking, findIx]
  | p :: kv, [], i, h => by simp at h
  | p :: kv, e :: es, i, h => by
    simp only [List.map_cons, List.cons.injEq, Prod.mk.injEq] at h
    obtain ⟨⟨h1, h2⟩, h3⟩ := h
    simp only [Instr.findAsking, Sem.run_bind, h1, heq, Result.andThen_ok, findIx]
    by_cases hx : x = p.1
    · simp [hx, h2]
    · simp only [hx, decide_false, Bool.false_eq_true, if_false]
      exact findAsking_run heq w x kv es (i + 1) h3

theorem findNow_some {d : TypeDesc} {enc : K → Value} (hn : ∀ x y, Instr.sameNow d (enc x) (enc y) = some (decide (x = y))) (x : K) : ∀ (kv : List (K × Value)) (es : List MapEntry) (i : Nat), es.map (fun e => (e.key, e.val)) = kv.map (fun p => (enc p.1, p.2)) →
    Instr.findNow d (enc x) es i = some (findIx x kv i)
  | [], es, i, h => by
    have : es = [] := by simpa using h
    subst this
    simp [Instr.findNow, findIx]
  | p :: kv, [], i, h => by simp at h
  | p :: kv, e :: es, i, h => by
    simp only [List.map_cons, List.cons.injEq, Prod.mk.injEq] at h
    obtain ⟨⟨h1, h2⟩, h3⟩ := h
    simp only [Instr.findNow, h1, hn, findIx]
    by_cases hx : x = p.1
    · simp [hx, h2]
    · simp only [hx, decide_false, if_false]
      exact findNow_some hn x kv es (i + 1) h3

/-- Keys that are asked one by one. -/
theorem keyTy_asking {P : Program} {k : TypeId} {enc : K → Value} {d : TypeDesc} (hd : P.underlying k = some d) (hn : ∀ x y, Instr.sameNow d (enc x) (enc y) = none)
    (heq : ∀ (w : World) (x y : K), (Op.equal k (enc x) (enc y)).run P w = .ok (decide (x = y)) w)
    (hc : ∀ (em : Bool) (w : World) (x : K), (Instr.checkKey em 10000 k (enc x)).run P w = .ok () w) (hs : ∀ x, Instr.sameBits 10000 (enc x) (enc x) = true) : KeyTy P k enc where
  check := hc
  find w x kv es h := by
    simp only [Instr.findKey, Sem.run_bind, run_underlying hd, Result.andThen_ok]
    rcases findNow_none hn x kv es 0 h with h' | ⟨rfl, rfl⟩
    · rw [h']; exact findAsking_run heq w x kv es 0 h
    · simp [Instr.findNow, findIx]
  stays w x := by simp [Instr.keyThatStays, hs]

/-- Keys that are held against each other at once. -/
theorem keyTy_now {P : Program} {k : TypeId} {enc : K → Value} {d : TypeDesc} (hd : P.underlying k = some d) (hn : ∀ x y, Instr.sameNow d (enc x) (enc y) = some (decide (x = y)))
    (hc : ∀ (em : Bool) (w : World) (x : K), (Instr.checkKey em 10000 k (enc x)).run P w = .ok () w) (hs : ∀ x, Instr.sameBits 10000 (enc x) (enc x) = true) : KeyTy P k enc where
  check := hc
  find w x kv es h := by
    simp only [Instr.findKey, Sem.run_bind, run_underlying hd, Result.andThen_ok]
    rw [findNow_some hn x kv es 0 h]; simp
  stays w x := by simp [Instr.keyThatStays, hs]

/-- Block g is a map that holds f. -/
def MapF (w : World) (g : Nat) (enc : K → Value) (f : K → Option Value) : Prop :=
  ∃ (es : Array MapEntry) (clock : Nat) (kv : List (K × Value)), w.heap[g]? = some (.map es clock) ∧ es.toList.map (fun e => (e.key, e.val)) = kv.map (fun p => (enc p.1, p.2)) ∧
    ∀ x, f x = (findIx x kv 0).map (·.2)

variable {w w' : World} {g : Nat} {enc : K → Value} {f : K → Option Value}

theorem MapF.lt (h : MapF w g enc f) : g < w.heap.size := by obtain ⟨es, c, kv, hg, _⟩ := h; exact (Array.getElem?_eq_some_iff.1 hg).1
theorem MapF.made (w : World) (enc : K → Value) : MapF (w.alloc (.map #[] 0)) w.heap.size enc (fun _ => none) :=
  ⟨#[], 0, [], (MapKept.heap_alloc w _).1, rfl, fun _ => rfl⟩
theorem MapF.upd {F : Nat → Prop} (h : MapF w g enc f) (hu : Upd w w' F) (hF : ¬ F g) : MapF w' g enc f := by
  have hl := h.lt
  obtain ⟨es, c, kv, hg, h1, h2⟩ := h
  exact ⟨es, c, kv, (hu.block g hl hF).trans hg, h1, h2⟩
theorem MapF.low (h : MapF w g enc f) (hb : Below w.heap.size w w') : MapF w' g enc f := h.upd (Upd.low hb (fun _ => False)) (by simp)
theorem MapF.alloc (h : MapF w g enc f) (o : Obj) : MapF (w.alloc o) g enc f := h.low (below_box w o)
theorem MapF.drewN (h : MapF w g enc f) (n : Nat) : MapF (w.drewN n) g enc f := h
theorem MapF.congr {f' : K → Option Value} (h : MapF w g enc f) (hf : ∀ x, f' x = f x) : MapF w g enc f' := by
  obtain ⟨es, c, kv, hg, h1, h2⟩ := h
  exact ⟨es, c, kv, hg, h1, fun x => (hf x).trans (h2 x)⟩

theorem findIx_lt (x : K) : ∀ (kv : List (K × Value)) (i j : Nat) (v : Value), findIx x kv i = some (j, v) → i ≤ j ∧ j < i + kv.length ∧ kv[j - i]? = some (x, v)
  | [], i, j, v, h => by simp [findIx] at h
  | p :: kv, i, j, v, h => by
    unfold findIx at h
    split at h
    · rename_i hx
      simp only [Option.some.injEq, Prod.mk.injEq] at h
      obtain ⟨rfl, rfl⟩ := h
      refine ⟨Nat.le_refl _, by simp, ?_⟩
      simp [hx]
    · obtain ⟨h1, h2, h3⟩ := findIx_lt x kv (i + 1) j v h
      refine ⟨by omega, by simp; omega, ?_⟩
      have : j - i = (j - (i + 1)) + 1 := by omega
      rw [this, List.getElem?_cons_succ]
      exact h3

theorem findIx_shift (x : K) : ∀ (kv : List (K × Value)) (i : Nat), (findIx x kv i).map (·.2) = (findIx x kv 0).map (·.2)
  | [], i => rfl
  | p :: kv, i => by
    unfold findIx
    split
    · rfl
    · rw [findIx_shift x kv (i + 1), findIx_shift x kv (0 + 1)]

theorem findIx_append (x : K) (p : K × Value) : ∀ (kv : List (K × Value)) (i : Nat), ((findIx x (kv ++ [p]) i).map (·.2)) = (match (findIx x kv i).map (·.2) with | some v => some v | none => if x = p.1 then some p.2 else none)
  | [], i => by simp only [List.nil_append, findIx]; split <;> simp_all
  | q :: kv, i => by
    simp only [List.cons_append, findIx]
    split
    · rfl
    · exact findIx_append x p kv (i + 1)

theorem findIx_set (x y : K) (v : Value) : ∀ (kv : List (K × Value)) (i j : Nat) (u : Value), findIx y kv i = some (j, u) →
    (findIx x (kv.set (j - i) (y, v)) i).map (·.2) = if x = y then some v else (findIx x kv i).map (·.2)
  | [], i, j, u, h => by simp [findIx] at h
  | p :: kv, i, j, u, h => by
    unfold findIx at h
    split at h
    · rename_i hy
      simp only [Option.some.injEq, Prod.mk.injEq] at h
      obtain ⟨rfl, rfl⟩ := h
      simp only [Nat.sub_self, List.set_cons_zero, findIx]
      by_cases hx : x = y
      · simp [hx]
      · have : ¬ x = p.1 := fun e => hx (e.trans hy.symm)
        simp [hx, this]
    · rename_i hy
      obtain ⟨h1, _, _⟩ := findIx_lt y kv (i + 1) j u h
      have hj : j - i = (j - (i + 1)) + 1 := by omega
      rw [hj, List.set_cons_succ]
      have ih := findIx_set x y v kv (i + 1) j u h
      simp only [findIx]
      split
      · rename_i hx
        have : ¬ x = y := fun e => hy (e.symm.trans hx)
        simp [this]
      · exact ih

variable {P : Program} {t k e : TypeId}

/-- m[x], without ok. -/
theorem MapF.lookup (h : MapF w g enc f) (hT : KeyTy P k enc) (ht : P.underlying t = some (.map k e)) {z : Value} (hz : (zeroValue e).run P w = .ok z w) (x : K) :
    (Instr.lookup t (.map (some g)) (enc x) false).run P w = .ok ((f x).getD z) w := by
  obtain ⟨es, c, kv, hg, h1, h2⟩ := h
  rw [h2 x]
  simp only [Instr.lookup, Sem.run_bind, run_underlying ht, Result.andThen_ok, MapKept.run_getObj_map hg, Sem.run_pure, hT.check, hT.find w x kv es.toList h1]
  cases hf : findIx x kv 0 with
  | none => simp [hz]
  | some p => simp

/-- v, ok := m[x]. -/
theorem MapF.lookup_ok (h : MapF w g enc f) (hT : KeyTy P k enc) (ht : P.underlying t = some (.map k e)) {z : Value} (hz : (zeroValue e).run P w = .ok z w) (x : K) :
    (Instr.lookup t (.map (some g)) (enc x) true).run P w = .ok (.tuple #[(f x).getD z, .bool (f x).isSome]) w := by
  obtain ⟨es, c, kv, hg, h1, h2⟩ := h
  rw [h2 x]
  simp only [Instr.lookup, Sem.run_bind, run_underlying ht, Result.andThen_ok, MapKept.run_getObj_map hg, Sem.run_pure, hT.check, hT.find w x kv es.toList h1]
  cases hf : findIx x kv 0 with
  | none => simp [hz]
  | some p => simp

theorem upd_setMap (w : World) (g : Nat) (es : Array MapEntry) (c : Nat) : Upd w { w with heap := w.heap.setIfInBounds g (.map es c) } (fun k => k = g) :=
  ⟨rfl, rfl, rfl, by simp, fun k _ hk => by simp only [Array.getElem?_setIfInBounds]; rw [if_neg (fun e => hk e.symm)]⟩

/-- m[x] = v. -/
theorem MapF.update (h : MapF w g enc f) (hT : KeyTy P k enc) (ht : P.underlying t = some (.map k e)) (x : K) (v : Value) :
    ∃ w', (Instr.mapUpdate t (.map (some g)) (enc x) v).run P w = .ok () w' ∧ MapF w' g enc (fun y => if y = x then some v else f y) ∧ Upd w w' (fun k => k = g) := by
  have hlt := h.lt
  obtain ⟨es, c, kv, hg, h1, h2⟩ := h
  have hgs : ∀ (es' : Array MapEntry) (c' : Nat), ({ w with heap := w.heap.setIfInBounds g (.map es' c') } : World).heap[g]? = some (.map es' c') := by intro es' c'; simp [hlt]
  cases hf : findIx x kv 0 with
  | none =>
    refine ⟨_, ?_, ⟨es.push { key := enc x, val := v, born := c }, c + 1, kv ++ [(x, v)], hgs _ _, ?_, ?_⟩, upd_setMap w g _ _⟩
    · simp only [Instr.mapUpdate, Sem.run_bind, run_underlying ht, Result.andThen_ok, MapKept.run_getObj_map hg, hT.check, hT.find w x kv es.toList h1, hf]
      exact MapKept.run_setObj_map _ hg
    · simp [h1]
    · intro y
      show (if y = x then some v else f y) = _
      rw [findIx_append, h2 y]
      by_cases hy : y = x
      · subst hy; rw [hf]; simp
      · simp only [hy, if_false]
        cases (findIx y kv 0).map (·.2) <;> rfl
  | some p =>
    obtain ⟨j, u⟩ := p
    obtain ⟨_, hj, hkv⟩ := findIx_lt x kv 0 j u hf
    simp only [Nat.zero_add, Nat.sub_zero] at hj hkv
    have hlen : es.size = kv.length := by have := congrArg List.length h1; simpa using this
    have hje : j < es.size := by omega
    have hkey : es[j].key = enc x := by
      have := congrArg (fun l => l[j]?) h1
      simp only [List.getElem?_map, Array.getElem?_toList, hkv, Array.getElem?_eq_getElem hje, Option.map_some, Option.some.injEq, Prod.mk.injEq] at this
      exact this.1
    refine ⟨_, ?_, ⟨es.modify j (fun e => { e with key := enc x, val := v }), c, kv.set j (x, v), hgs _ _, ?_, ?_⟩, upd_setMap w g _ _⟩
    · simp only [Instr.mapUpdate, Sem.run_bind, run_underlying ht, Result.andThen_ok, MapKept.run_getObj_map hg, hT.check, hT.find w x kv es.toList h1, hf, Array.getElem?_eq_getElem hje, Option.map_some, Option.getD_some, hkey, hT.stays]
      exact MapKept.run_setObj_map _ hg
    · apply List.ext_getElem?
      intro i
      have hi := congrArg (fun l => l[i]?) h1
      simp only [List.getElem?_map, Array.getElem?_toList] at hi ⊢
      rw [Array.getElem?_modify, List.getElem?_set]
      by_cases hij : j = i
      · subst hij
        simp [hje, hj]
      · simp [hij, hi]
    · intro y
      show (if y = x then some v else f y) = _
      have := findIx_set y x v kv 0 j u hf
      rw [Nat.sub_zero] at this
      rw [this, h2 y]

/-- m[x] = v, at the operation. -/
theorem wpList_mapStore {ops : Array Oper} {rest : List Oper} {o : Oper} {a : Act} {Q : Exit → Act → World → Prop} (hgd : o.guard = none) (mo ko vo : Operand)
    (ho : o.op = .mapUpdate t mo ko vo) (hT : KeyTy P k enc) (ht : P.underlying t = some (.map k e)) (hm : a.eval mo = .map (some g)) (x : K) (hk : a.eval ko = enc x) (v : Value) (hv : a.eval vo = v) (h : MapF w g enc f)
    (hK : ∀ w', MapF w' g enc (fun y => if y = x then some v else f y) → Upd w w' (fun k => k = g) → wpList P ops Q rest (a.put o.dst undef) w') : wpList P ops Q (o :: rest) a w := by
  refine wpList_plain hgd fun K hKK => ?_
  obtain ⟨w', hr, hf', hu⟩ := h.update hT ht x v
  unfold Oper.wp execOp
  simp only [ho, Sem.run_bind, hm, hk, hv, hr, Result.andThen_ok, Sem.run_pure]
  exact hKK _ _ (hK w' hf' hu)

end
/-- A store into a map turns no cell. -/
theorem map_cells {K : Type} [DecidableEq K] {w w' : World} {g : Nat} {enc : K → Value} {f f' : K → Option Value} (h : MapF w g enc f) (h' : MapF w' g enc f') (hu : Upd w w' (fun k => k = g)) (p : Addr) (hp : p.block < w.heap.size) : w'.cell? p = w.cell? p := by
  by_cases e : p.block = g
  · obtain ⟨es, ck, kv, hg, _⟩ := h
    obtain ⟨es', ck', kv', hg', _⟩ := h'
    simp only [World.cell?, e, hg, hg']
  · exact World.cell?_of_block (hu.block p.block hp e)


end Go.Proofs.Ytikgjappablbhaa
