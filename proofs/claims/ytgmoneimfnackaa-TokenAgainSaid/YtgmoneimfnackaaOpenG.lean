/-
  What comes in, as a reading of the claim's form, to our own words on memory ('Rd'): rows of numbers; and what is asked behind a law's call.
-/
import Derived.Test.YtgmoneimfnackaaRd
import Derived.Test.YtgmoneimfnackaaRows
import Derived.ProofKit
import Derived.HandedShaped
namespace Go.Proofs.Ytgmoneimfnackaa
open Go.RowKit Go.ChangeShapes Go.WideShapes Go.ChangeAt

theorem getD_lt {α : Type} (l : List α) (j : Nat) (d : α) (h : j < l.length) : l[j]? = some (l[j]?.getD d) := by
  rw [List.getElem?_eq_getElem h]; rfl

theorem list_of {α : Type} {Q : Nat → α → Prop} : ∀ {n : Nat}, (∀ i, i < n → ∃ x, Q i x) → ∃ l : List α, l.length = n ∧ ∀ i (hi : i < l.length), Q i l[i]
  | 0, _ => ⟨[], rfl, fun i hi => by simp at hi⟩
  | n + 1, h => by
    obtain ⟨l, hl, hq⟩ := list_of (n := n) fun i hi => h i (by omega)
    obtain ⟨x, hx⟩ := h n (by omega)
    refine ⟨l ++ [x], by simp [hl], fun i hi => ?_⟩
    by_cases h1 : i < l.length
    · rw [List.getElem_append_left h1]; exact hq i h1
    · have h2 : i = l.length := by simp at hi; omega
      subst h2
      rw [List.getElem_append_right (Nat.le_refl _)]
      simp only [Nat.sub_self, List.getElem_cons_zero]
      rw [hl]; exact hx

theorem rd_rows {α : Type} {w : World} {B size b off len cap : Nat} (e : α → List Tr) (he : ∀ x, (e x).length = size) (hlc : len ≤ cap) (hn : len ≤ 140737488351232) (hm : cap ≤ maxLen) (hb : b < B)
    (h : ∀ i, i < len → ∃ x : α, ∃ us : Nat → Value, (∀ j, j < size → w.cell? ⟨b, off + i * size + j, none⟩ = some (us j)) ∧ ∀ j (h' : j < (e x).length), Rd w B (e x)[j] (us j)) :
    ∃ xs : List α, Rd w B (.sl size (xs.map e)) (.slice (some ⟨b, off, none⟩) len cap) := by
  obtain ⟨l, hl, hq⟩ := list_of (α := α × (Nat → Value)) (Q := fun i p => (∀ j, j < size → w.cell? ⟨b, off + i * size + j, none⟩ = some (p.2 j)) ∧ ∀ j (h' : j < (e p.1).length), Rd w B (e p.1)[j] (p.2 j))
    (fun i hi => by obtain ⟨x, us, h⟩ := h i hi; exact ⟨(x, us), h⟩)
  refine ⟨l.map (·.1), ?_⟩
  have hlen : ((l.map (·.1)).map e).length = len := by simp [hl]
  have := Rd.row (w := w) (B := B) size b off cap ((l.map (·.1)).map e) (fun k j => ((l[k]?.map (·.2)).getD (fun _ => undef)) j)
    (by intro r hr; obtain ⟨x, _, rfl⟩ := List.mem_map.1 hr; exact he x) (by omega) (by omega) hm hb
    (fun k j hk hj => by
      have hk' : k < l.length := by omega
      rw [List.getElem?_eq_getElem hk']
      exact (hq k hk').1 j hj)
    (fun k hk j hj => by
      have hk' : k < l.length := by omega
      rw [List.getElem?_eq_getElem hk']
      simp only [List.getElem_map] at hj ⊢
      exact (hq k hk').2 j hj)
  rw [hlen] at this
  exact this

theorem Rd.sl_form {w : World} {B size : Nat} {rows : List (List Tr)} {v : Value} (h : Rd w B (.sl size rows) v) : ∃ A c, v = .slice A rows.length c ∧ rows.length ≤ c ∧ rows.length ≤ 140737488351232 ∧ c ≤ maxLen := by
  rcases h.sl_inv with ⟨rfl, A, rfl⟩ | ⟨b, off, c, us, rfl, h1, h2, h3, _⟩
  · exact ⟨A, 0, rfl, Nat.le_refl _, Nat.zero_le _, Nat.zero_le _⟩
  · exact ⟨_, c, rfl, h1, h2, h3⟩

/-- The k-th row of a slice that reads: where it lies, and its cells. -/
theorem Rd.at_ {w : World} {B k n c size : Nat} {A : Option Addr} {rows : List (List Tr)} (h : Rd w B (.sl size rows) (.slice A n c)) (hk : k < rows.length) :
    ∃ (ab off : Nat) (us : Nat → Value), A = some ⟨ab, off, none⟩ ∧ ab < B ∧ (∀ j, j < size → w.cell? ⟨ab, off + k * size + j, none⟩ = some (us j)) ∧
      (∀ j (h' : j < rows[k].length), Rd w B rows[k][j] (us j)) := by
  rcases h.sl_inv with ⟨rfl, _⟩ | ⟨ab, off, c', us, hv, _, _, _, hb, hc, hr⟩
  · simp at hk
  · injection hv with hA _ _
    exact ⟨ab, off, us k, hA, hb, fun j hj => hc k j hk hj, fun j hj => hr k hk j hj⟩

theorem Rd.leaf_at {w : World} {B k n c : Nat} {A : Option Addr} {α : Type} {f : α → Value} {xs : List α} (h : Rd w B (.sl 1 (xs.map fun x => [.leaf (f x)])) (.slice A n c)) (hk : k < xs.length) :
    ∃ ab off, A = some ⟨ab, off, none⟩ ∧ ab < B ∧ w.cell? ⟨ab, off + k, none⟩ = some (f xs[k]) := by
  obtain ⟨ab, off, us, hA, hb, hc, hr⟩ := h.at_ (k := k) (by simpa using hk)
  have h0 := hr 0 (by simp)
  simp only [List.getElem_map, List.getElem_cons_zero] at h0
  have e0 := h0.leaf_inv
  have := hc 0 (by omega)
  refine ⟨ab, off, hA, hb, ?_⟩
  rw [← e0, ← this]
  simp

theorem int_wf {n : Int} (h : (Lit.int .i64 n).wf = true) : -9223372036854775808 ≤ n ∧ n ≤ 9223372036854775807 := by
  simp [Lit.wf, IntKind.min, IntKind.max, IntKind.bits, IntKind.signed] at h
  omega

section
variable {H : Type} {enc : TypeId × Value → H} {w : World}

/-- Cells that read at a type, each text and each slice in it of a size that there is. -/
def Reads (enc : TypeId × Value → H) (w : World) (t : TypeId) (cs : List Value) (fuel : Nat) : Prop :=
  ∃ x, DataW.trod enc Try.prog w 0 (fun _ => true) true fuel t cs = some x ∧ (x.1.weights Try.prog t).all (· ≤ reachBytes) = true

theorem cell_spot {a : Addr} {v : Value} (h : w.cell? a = some v) : a.spot = none ∧ a.block < w.heap.size := by
  unfold World.cell? at h
  split at h
  · rename_i c t f hb
    split at h
    · cases h
    · rename_i hs
      exact ⟨by simpa using hs, (Array.getElem?_eq_some_iff.1 hb).1⟩
  · cases h

theorem add_add {b off m j : Nat} : ((⟨b, off, none⟩ : Addr).add m).add j = ⟨b, off + m + j, none⟩ := by
  unfold Addr.add
  by_cases h1 : m = 0
  · subst h1
    by_cases h2 : j = 0
    · subst h2; rfl
    · simp [h2]
  · by_cases h2 : j = 0
    · subst h2; simp [h1]
    · simp [h1, h2]

theorem weights_mem {e : TypeId} : ∀ {l : List (DataW H)}, (DataW.weightsAll Try.prog e l).all (· ≤ reachBytes) = true → ∀ d ∈ l, (d.weights Try.prog e).all (· ≤ reachBytes) = true
  | [], _, d, hd => by simp at hd
  | x :: l, h, d, hd => by
    unfold DataW.weightsAll at h
    rw [List.all_append, Bool.and_eq_true] at h
    rcases List.mem_cons.1 hd with rfl | hd
    · exact h.1
    · exact weights_mem h.2 d hd

theorem Reads.slice {t e size fuel : Nat} {v : Value} (hu : Try.prog.underlying t = some (.slice e)) (hs : Try.prog.cellsOf e = size) (hpos : 0 < size) (hby : 1 ≤ Try.prog.bytesOf e) (h : Reads enc w t [v] fuel) :
    (∃ A, v = .slice A 0 0) ∨ ∃ b off len cap n, fuel = n + 1 ∧ v = .slice (some ⟨b, off, none⟩) len cap ∧ len ≤ cap ∧ len ≤ 140737488351232 ∧ cap ≤ maxLen ∧ b < w.heap.size ∧
      ∀ i, i < len → ∃ cs : List Value, cs.length = size ∧ (∀ j, j < size → w.cell? ⟨b, off + i * size + j, none⟩ = cs[j]?) ∧ Reads enc w e cs n := by
  obtain ⟨x, hx, hz⟩ := h
  rcases DataW.trod_slice hu hx with ⟨h1, _⟩ | ⟨a, len, cap, elems, rest, n, rfl, h1, rfl, _, hlc, hm, hel, hat, hrest, _⟩
  · injection h1 with h1
    exact .inl ⟨none, h1⟩
  · injection h1 with h1
    subst h1
    obtain ⟨hrl, hra⟩ := hrest rfl
    rw [hs] at hat hra
    by_cases hc : cap = 0
    · subst hc
      have hl0 : len = 0 := by omega
      subst hl0
      exact .inl ⟨_, rfl⟩
    · have hcell : ∃ cs, w.cells? 0 (a.add (0 * size)) size = some cs := by
        by_cases hl : len = 0
        · subst hl
          have := hra 0 (by omega)
          cases hcs : w.cells? 0 (a.add ((0 + 0) * size)) size with
          | some cs => exact ⟨cs, by simp⟩
          | none => rw [hcs, List.getElem?_eq_getElem (by omega)] at this; cases this
        · have := hat 0 (by omega)
          cases hcs : w.cells? 0 (a.add (0 * size)) size with
          | some cs => exact ⟨cs, rfl⟩
          | none => rw [hcs, List.getElem?_eq_getElem (by omega)] at this; cases this
      obtain ⟨cs, hcs⟩ := hcell
      obtain ⟨_, hcl, hcc⟩ := World.cells?_some hcs
      have h0 := hcc 0 hpos
      rw [List.getElem?_eq_getElem (by omega)] at h0
      have ha0 : (a.add (0 * size)).add 0 = a := by simp [Addr.add]
      rw [ha0] at h0
      obtain ⟨hsp, hbl⟩ := cell_spot h0
      obtain ⟨b, off, sp⟩ := a
      simp only at hsp hbl
      subst hsp
      simp only [DataW.weights, hu, List.all_cons, Bool.and_eq_true, decide_eq_true_eq, List.all_append, List.length_map] at hz
      obtain ⟨hz1, hz2, _⟩ := hz
      have hlen : len ≤ 140737488351232 := by
        have h2 : elems.length + rest.length ≤ (elems.length + rest.length) * Try.prog.bytesOf e := Nat.le_mul_of_pos_right _ hby
        have h3 : reachBytes = 140737488351232 := rfl
        omega
      refine .inr ⟨b, off, len, cap, n, rfl, rfl, hlc, hlen, hm, hbl, fun i hi => ?_⟩
      have hi' := hat i hi
      rw [List.getElem?_eq_getElem (by omega)] at hi'
      cases hcs' : w.cells? 0 ((⟨b, off, none⟩ : Addr).add (i * size)) size with
      | none => rw [hcs'] at hi'; cases hi'
      | some cs' =>
        rw [hcs'] at hi'
        obtain ⟨_, hcl', hcc'⟩ := World.cells?_some hcs'
        refine ⟨cs', hcl', fun j hj => ?_, elems[i], hi', ?_⟩
        · rw [← hcc' j hj, add_add]
        · exact weights_mem hz2 _ (List.mem_map.2 ⟨_, List.getElem_mem _, rfl⟩)

theorem Rd.nil_ {w : World} {B size : Nat} (A : Option Addr) : Rd w B (.sl size []) (.slice A 0 0) := by
  cases A with
  | none => exact .none_ _
  | some a => exact .empty _ a

/-- A row of numbers comes in. -/
theorem open_introw {t e fuel : Nat} {v : Value} (hu : Try.prog.underlying t = some (.slice e)) (hs : Try.prog.cellsOf e = 1) (hby : 1 ≤ Try.prog.bytesOf e) (hi : Try.prog.underlying e = some (.int .i64)) (h : Reads enc w t [v] fuel) :
    ∃ xs : List Int, Rd w w.heap.size (.sl 1 (xs.map fun n => [.leaf (.int .i64 n)])) v ∧ ∀ n ∈ xs, -9223372036854775808 ≤ n ∧ n ≤ 9223372036854775807 := by
  rcases h.slice hu (size := 1) hs (by omega) hby with ⟨A, rfl⟩ | ⟨b, off, len, cap, n, rfl, rfl, h1, h2, h3, h4, h5⟩
  · exact ⟨[], Rd.nil_ A, by simp⟩
  · obtain ⟨xs, hxs⟩ := rd_rows (α := {n : Int // -9223372036854775808 ≤ n ∧ n ≤ 9223372036854775807}) (w := w) (B := w.heap.size) (b := b) (off := off) (fun n => [.leaf (.int .i64 n.1)]) (fun _ => rfl) h1 h2 h3 h4 fun i hi' => by
      obtain ⟨cs, hl, hc, x, hx, hw⟩ := h5 i hi'
      obtain ⟨k, e0, _, hk⟩ := DataW.trod_int hi hx
      subst e0
      refine ⟨⟨k, ?_⟩, fun _ => .int .i64 k, fun j hj => ?_, fun j hj => ?_⟩
      · exact int_wf hk
      · have hj0 : j = 0 := by have : j < 1 := hj; omega
        subst hj0
        exact hc 0 (by omega)
      · have hj0 : j = 0 := by simp at hj; omega
        subst hj0
        exact .leaf _
    refine ⟨xs.map (·.1), by rw [List.map_map]; exact hxs, ?_⟩
    intro n hn
    obtain ⟨y, _, rfl⟩ := List.mem_map.1 hn
    exact y.2
end

theorem cells_slice {W : World} {base : Nat} {t e : TypeId} {v : Value} (hu : Try.prog.underlying t = some (.slice e)) (h : Value.okWide Try.prog W .any base t v) : v.cells.toList = [v] := by
  unfold Value.okWide at h
  rw [hu] at h
  simp only [Cell.okWide, hu, Cell.ok] at h
  cases v <;> first | rfl | exact h.elim | (simp at h)

/-- A ROW OF NUMBERS COMES IN, as an argument. -/
theorem open_introw_arg {H : Type} {enc : TypeId × Value → H} {W : World} {base t e : Nat} {v : Value} {d : DataW H} {ps : List MemPlace} (hu : Try.prog.underlying t = some (.slice e)) (hs : Try.prog.cellsOf e = 1) (hby : 1 ≤ Try.prog.bytesOf e) (hi : Try.prog.underlying e = some (.int .i64))
    (hval : Value.okWide Try.prog W .any base t v) (h : DataW.Trod enc Try.prog W 0 (fun _ => true) true t v d ps)
    (hz : (d.weights Try.prog t).all (· ≤ reachBytes) = true) : ∃ xs : List Int, Rd W W.heap.size (.sl 1 (xs.map fun n => [.leaf (.int .i64 n)])) v ∧ ∀ n ∈ xs, -9223372036854775808 ≤ n ∧ n ≤ 9223372036854775807 := by
  obtain ⟨fuel, hf⟩ := h
  rw [cells_slice hu hval] at hf
  exact open_introw hu hs hby hi ⟨_, hf, hz⟩

/-! ## Behind the call -/
section
variable {H : Type} {enc : TypeId × Value → H} {W W' : World}

theorem trodAll_below : ∀ {ts : List TypeId} {vs : List Value} {ds : List (DataW H)} {ps : List MemPlace}, laidOutB Try.prog = true → (∀ t ∈ ts, Try.prog.readableRec t = true ∧ t < Try.prog.types.size) →
    DataW.TrodAll enc Try.prog W 0 (fun _ => true) true ts vs ds ps → (∀ x ∈ ps, x.block < W.heap.size) → Below W.heap.size W W' → DataW.TrodAll enc Try.prog W' 0 (fun b => decide (b < W.heap.size)) true ts vs ds ps
  | [], vs, ds, ps, _, _, h, _, _ => by
    cases vs <;> cases ds <;> exact h
  | t :: ts, vs, ds, ps, hl, ht, h, hlt, hb => by
    obtain ⟨v, vs', d, ds', p, q, rfl, rfl, rfl, hd, hr⟩ := trodAll_cons h
    have ht1 := ht t (List.mem_cons_self ..)
    exact ⟨p, q, Below.trod hl ht1.1 ht1.2 hd hb (fun x hx => hlt x (List.mem_append_left _ hx)), trodAll_below hl (fun u hu => ht u (List.mem_cons_of_mem _ hu)) hr (fun x hx => hlt x (List.mem_append_right _ hx)) hb, rfl⟩

/-- A LAW's END: it handed back true, what there was is as it was. -/
theorem law_post {fn : Func} {s : ChangeSpec} {args : Array Value} {ds gs : List (DataW H)} {before : List MemPlace} (hres : fn.resultTypes = #[4]) (hv : s.vars = []) (hro : ∀ t ∈ fn.params.toList, Try.prog.readableRec t = true ∧ t < Try.prog.types.size)
    (hl : laidOutB Try.prog = true) (hs : s.fn H (ds ++ gs) = { results := [.lit (.bool true)], args := ds }) (hW : DataW.Whole enc Try.prog fn.params.toList s.vars false W args.toList ds gs before) (hb : Below W.heap.size W W') :
    s.post enc Try.prog fn false true false false W args (.bool true) W' := by
  have hlt := hW.lt
  have hW' := hW
  obtain ⟨p, q, hA, hV, rfl, _, _⟩ := hW'
  refine ⟨ds, gs, p ++ q, [], p, [], hW, ?_, ?_, ?_, hb.frame _, fun h => by cases h⟩
  · rw [hres, hs]
    exact trodAll_mk1 (shut_bool Try.underlying4 _)
  · rw [hs]
    exact trodAll_below hl hro hA (fun x hx => hlt x (List.mem_append_left _ hx)) hb
  · rw [hs, hv]
    exact rfl
end

end Go.Proofs.Ytgmoneimfnackaa
