/-
  What comes in, as a reading of the claim's form, to our own words on memory ('Rd'): entries, rows of numbers; and what is asked behind a law's call.
-/
import Derived.Test.YtikgjappablbhaaFm
import Derived.Test.YtikgjappablbhaaRows
import Derived.ProofKit
import Derived.HandedShaped
namespace Go.Proofs.Ytikgjappablbhaa
open Go.RowKit Go.ChangeShapes Go.WideShapes Go.ChangeAt

theorem getD_lt {α : Type} (l : List α) (j : Nat) (d : α) (h : j < l.length) : l[j]? = some (l[j]?.getD d) := by
  rw [List.getElem?_eq_getElem h]; rfl

theorem list_of {α : Type} {Q : Nat → α → Prop} : ∀ {n : Nat}, (∀ i, i < n → ∃ x, Q i x) → ∃ l : List α, l.length = n ∧ ∀ i (hi : i < l.length), Q i l[i]
  | 0, _ => ⟨[], rfl, fun i hi => by simp at hi⟩
  | n + 1, h => by
    obtain ⟨l, hl, hq⟩ := list_of (n := n) fun i hi => h i (by omega)
    obtain ⟨x, hx⟩ := h n (by omega)
    refine ⟨l ++ [x], by simp [hl], fun i hi => ?_⟩
    by_cases h1 : i < l.length
    · rw [List.getElem_append_left h1]; exact hq i h1
    · have h2 : i = l.length := by simp at hi; omega
      subst h2
      rw [List.getElem_append_right (Nat.le_refl _)]
      simp only [Nat.sub_self, List.getElem_cons_zero]
      rw [hl]; exact hx

theorem rd_rows {α : Type} {w : World} {B size b off len cap : Nat} (e : α → List Tr) (he : ∀ x, (e x).length = size) (hlc : len ≤ cap) (hn : len ≤ 140737488351232) (hm : cap ≤ maxLen) (hb : b < B)
    (h : ∀ i, i < len → ∃ x : α, ∃ us : Nat → Value, (∀ j, j < size → w.cell? ⟨b, off + i * size + j, none⟩ = some (us j)) ∧ ∀ j (h' : j < (e x).length), Rd w B (e x)[j] (us j)) :
    ∃ xs : List α, Rd w B (.sl size (xs.map e)) (.slice (some ⟨b, off, none⟩) len cap) := by
  obtain ⟨l, hl, hq⟩ := list_of (α := α × (Nat → Value)) (Q := fun i p => (∀ j, j < size → w.cell? ⟨b, off + i * size + j, none⟩ = some (p.2 j)) ∧ ∀ j (h' : j < (e p.1).length), Rd w B (e p.1)[j] (p.2 j))
    (fun i hi => by obtain ⟨x, us, h⟩ := h i hi; exact ⟨(x, us), h⟩)
  refine ⟨l.map (·.1), ?_⟩
  have hlen : ((l.map (·.1)).map e).length = len := by simp [hl]
  have := Rd.row (w := w) (B := B) size b off cap ((l.map (·.1)).map e) (fun k j => ((l[k]?.map (·.2)).getD (fun _ => undef)) j)
    (by intro r hr; obtain ⟨x, _, rfl⟩ := List.mem_map.1 hr; exact he x) (by omega) (by omega) hm hb
    (fun k j hk hj => by
      have hk' : k < l.length := by omega
      rw [List.getElem?_eq_getElem hk']
      exact (hq k hk').1 j hj)
    (fun k hk j hj => by
      have hk' : k < l.length := by omega
      rw [List.getElem?_eq_getElem hk']
      simp only [List.getElem_map] at hj ⊢
      exact (hq k hk').2 j hj)
  rw [hlen] at this
  exact this

section
variable {H : Type} {enc : TypeId × Value → H} {w : World}

/-- Cells that read at a type, each text and each slice in it of a size that there is. -/
def Reads (enc : TypeId × Value → H) (w : World) (t : TypeId) (cs : List Value) (fuel : Nat) : Prop :=
  ∃ x, DataW.trod enc Try.prog w 0 (fun _ => true) true fuel t cs = some x ∧ (x.1.weights Try.prog t).all (· ≤ reachBytes) = true

theorem cell_spot {a : Addr} {v : Value} (h : w.cell? a = some v) : a.spot = none ∧ a.block < w.heap.size := by
  unfold World.cell? at h
  split at h
  · rename_i c t f hb
    split at h
    · cases h
    · rename_i hs
      exact ⟨by simpa using hs, (Array.getElem?_eq_some_iff.1 hb).1⟩
  · cases h

theorem add_add {b off m j : Nat} : ((⟨b, off, none⟩ : Addr).add m).add j = ⟨b, off + m + j, none⟩ := by
  unfold Addr.add
  by_cases h1 : m = 0
  · subst h1
    by_cases h2 : j = 0
    · subst h2; rfl
    · simp [h2]
  · by_cases h2 : j = 0
    · subst h2; simp [h1]
    · simp [h1, h2]

theorem weights_mem {e : TypeId} : ∀ {l : List (DataW H)}, (DataW.weightsAll Try.prog e l).all (· ≤ reachBytes) = true → ∀ d ∈ l, (d.weights Try.prog e).all (· ≤ reachBytes) = true
  | [], _, d, hd => by simp at hd
  | x :: l, h, d, hd => by
    unfold DataW.weightsAll at h
    rw [List.all_append, Bool.and_eq_true] at h
    rcases List.mem_cons.1 hd with rfl | hd
    · exact h.1
    · exact weights_mem h.2 d hd

theorem Reads.slice {t e size fuel : Nat} {v : Value} (hu : Try.prog.underlying t = some (.slice e)) (hs : Try.prog.cellsOf e = size) (hpos : 0 < size) (hby : 1 ≤ Try.prog.bytesOf e) (h : Reads enc w t [v] fuel) :
    (∃ A, v = .slice A 0 0) ∨ ∃ b off len cap n, fuel = n + 1 ∧ v = .slice (some ⟨b, off, none⟩) len cap ∧ len ≤ cap ∧ len ≤ 140737488351232 ∧ cap ≤ maxLen ∧ b < w.heap.size ∧
      ∀ i, i < len → ∃ cs : List Value, cs.length = size ∧ (∀ j, j < size → w.cell? ⟨b, off + i * size + j, none⟩ = cs[j]?) ∧ Reads enc w e cs n := by
  obtain ⟨x, hx, hz⟩ := h
  rcases DataW.trod_slice hu hx with ⟨h1, _⟩ | ⟨a, len, cap, elems, rest, n, rfl, h1, rfl, _, hlc, hm, hel, hat, hrest, _⟩
  · injection h1 with h1
    exact .inl ⟨none, h1⟩
  · injection h1 with h1
    subst h1
    obtain ⟨hrl, hra⟩ := hrest rfl
    rw [hs] at hat hra
    by_cases hc : cap = 0
    · subst hc
      have hl0 : len = 0 := by omega
      subst hl0
      exact .inl ⟨_, rfl⟩
    · have hcell : ∃ cs, w.cells? 0 (a.add (0 * size)) size = some cs := by
        by_cases hl : len = 0
        · subst hl
          have := hra 0 (by omega)
          cases hcs : w.cells? 0 (a.add ((0 + 0) * size)) size with
          | some cs => exact ⟨cs, by simp⟩
          | none => rw [hcs, List.getElem?_eq_getElem (by omega)] at this; cases this
        · have := hat 0 (by omega)
          cases hcs : w.cells? 0 (a.add (0 * size)) size with
          | some cs => exact ⟨cs, rfl⟩
          | none => rw [hcs, List.getElem?_eq_getElem (by omega)] at this; cases this
      obtain ⟨cs, hcs⟩ := hcell
      obtain ⟨_, hcl, hcc⟩ := World.cells?_some hcs
      have h0 := hcc 0 hpos
      rw [List.getElem?_eq_getElem (by omega)] at h0
      have ha0 : (a.add (0 * size)).add 0 = a := by simp [Addr.add]
      rw [ha0] at h0
      obtain ⟨hsp, hbl⟩ := cell_spot h0
      obtain ⟨b, off, sp⟩ := a
      simp only at hsp hbl
      subst hsp
      simp only [DataW.weights, hu, List.all_cons, Bool.and_eq_true, decide_eq_true_eq, List.all_append, List.length_map] at hz
      obtain ⟨hz1, hz2, _⟩ := hz
      have hlen : len ≤ 140737488351232 := by
        have h2 : elems.length + rest.length ≤ (elems.length + rest.length) * Try.prog.bytesOf e := Nat.le_mul_of_pos_right _ hby
        have h3 : reachBytes = 140737488351232 := rfl
        omega
      refine .inr ⟨b, off, len, cap, n, rfl, rfl, hlc, hlen, hm, hbl, fun i hi => ?_⟩
      have hi' := hat i hi
      rw [List.getElem?_eq_getElem (by omega)] at hi'
      cases hcs' : w.cells? 0 ((⟨b, off, none⟩ : Addr).add (i * size)) size with
      | none => rw [hcs'] at hi'; cases hi'
      | some cs' =>
        rw [hcs'] at hi'
        obtain ⟨_, hcl', hcc'⟩ := World.cells?_some hcs'
        refine ⟨cs', hcl', fun j hj => ?_, elems[i], hi', ?_⟩
        · rw [← hcc' j hj, add_add]
        · exact weights_mem hz2 _ (List.mem_map.2 ⟨_, List.getElem_mem _, rfl⟩)

theorem Rd.nil_ {w : World} {B size : Nat} (A : Option Addr) : Rd w B (.sl size []) (.slice A 0 0) := by
  cases A with
  | none => exact .none_ _
  | some a => exact .empty _ a

theorem open_strs {fuel : Nat} {v : Value} (h : Reads enc w 37 [v] fuel) : ∃ xs : List ByteArray, Rd w w.heap.size (.sl 1 (xs.map fun s => [.leaf (.string s)])) v := by
  rcases h.slice Try.underlying37 (size := 1) (by kernel_rfl) (by omega) (of_decide_eq_true (by kernel_rfl)) with ⟨A, rfl⟩ | ⟨b, off, len, cap, n, rfl, rfl, h1, h2, h3, h4, h5⟩
  · exact ⟨[], Rd.nil_ A⟩
  · refine rd_rows _ (fun _ => rfl) h1 h2 h3 h4 fun i hi => ?_
    obtain ⟨cs, hl, hc, x, hx, hw⟩ := h5 i hi
    obtain ⟨s, rfl, _, _⟩ := DataW.trod_string Try.underlying9 hx
    refine ⟨s, fun _ => .string s, fun j hj => ?_, fun j hj => ?_⟩
    · have hj0 : j = 0 := by omega
      subst hj0
      exact hc 0 (by omega)
    · have hj0 : j = 0 := by simp at hj; omega
      subst hj0
      exact .leaf _

theorem open_exs : ∀ (fuel : Nat) (v : Value), Reads enc w 38 [v] fuel → ∃ xs : List Ex, Rd w w.heap.size (.sl 3 (encExs xs)) v := by
  intro fuel
  induction fuel using Nat.strongRecOn with
  | ind fuel ih =>
    intro v h
    rcases h.slice Try.underlying38 (size := 3) (by kernel_rfl) (by omega) (of_decide_eq_true (by kernel_rfl)) with ⟨A, rfl⟩ | ⟨b, off, len, cap, n, rfl, rfl, h1, h2, h3, h4, h5⟩
    · exact ⟨[], Rd.nil_ A⟩
    · have key : ∃ xs : List Ex, Rd w w.heap.size (.sl 3 (xs.map encEx)) (.slice (some ⟨b, off, none⟩) len cap) := by
        refine rd_rows _ (fun x => by cases x; rfl) h1 h2 h3 h4 fun i hi => ?_
        obtain ⟨cs, hl, hc, x, hx, hw⟩ := h5 i hi
        obtain ⟨c0, c1, c2, rfl⟩ : ∃ c0 c1 c2, cs = [c0, c1, c2] := by
          match cs, hl with
          | [c0, c1, c2], _ => exact ⟨_, _, _, rfl⟩
        obtain ⟨xs, m, rfl, rfl, _, hxl, hf⟩ := DataW.trod_struct Try.underlying71 hx
        obtain ⟨x0, x1, x2, rfl⟩ : ∃ x0 x1 x2, xs = [x0, x1, x2] := by
          match xs, hxl with
          | [x0, x1, x2], _ => exact ⟨_, _, _, rfl⟩
        have f0 := hf 0 _ rfl
        have f1 := hf 1 _ rfl
        have f2 := hf 2 _ rfl
        simp only [List.getElem?_cons_zero, List.getElem?_cons_succ] at f0 f1 f2
        obtain ⟨b', e0, _⟩ := DataW.trod_bool Try.underlying4 f0
        obtain ⟨s', e1, _, _⟩ := DataW.trod_string Try.underlying9 f1
        have e0' : c0 = .bool b' := by injection e0
        have e1' : c1 = .string s' := by injection e1
        subst e0'
        subst e1'
        simp only [DataW.weights, Try.underlying71, DataW.weightsEach, List.map_cons, List.map_nil, List.all_append, Bool.and_eq_true] at hw
        obtain ⟨ys, hys⟩ := ih m (by omega) c2 ⟨x2, f2, hw.2.2.1⟩
        refine ⟨.mk b' s' ys, fun j => [Value.bool b', .string s', c2][j]?.getD undef, fun j hj => ?_, fun j hj => ?_⟩
        · rw [hc j hj]; exact getD_lt _ _ _ (by simpa using hj)
        · match j, hj with
          | 0, _ => exact .leaf _
          | 1, _ => exact .leaf _
          | 2, _ => exact hys
      obtain ⟨xs, hxs⟩ := key
      exact ⟨xs, by rw [encExs_map]; exact hxs⟩

/-- A formula's four cells. -/
theorem fm_row {m : Nat} {cs : List Value} (hl : cs.length = 4) (h : Reads enc w 41 cs m) (ih : ∀ m', m' < m → ∀ v, Reads enc w 39 [v] m' → ∃ fs : List Fm, Rd w w.heap.size (.sl 4 (encFms fs)) v) :
    ∃ (f : Fm), ∃ us : Nat → Value, (∀ j, j < 4 → cs[j]? = some (us j)) ∧ ∀ j (h' : j < (encFm f).length), Rd w w.heap.size (encFm f)[j] (us j) := by
  obtain ⟨c0, c1, c2, c3, rfl⟩ : ∃ c0 c1 c2 c3, cs = [c0, c1, c2, c3] := by
    match cs, hl with
    | [c0, c1, c2, c3], _ => exact ⟨_, _, _, _, rfl⟩
  obtain ⟨x, hx, hw⟩ := h
  obtain ⟨xs, m, rfl, rfl, _, hxl, hf⟩ := DataW.trod_struct Try.underlying41 hx
  obtain ⟨x0, x1, x2, x3, rfl⟩ : ∃ x0 x1 x2 x3, xs = [x0, x1, x2, x3] := by
    match xs, hxl with
    | [x0, x1, x2, x3], _ => exact ⟨_, _, _, _, rfl⟩
  have f0 := hf 0 _ rfl
  have f1 := hf 1 _ rfl
  have f2 := hf 2 _ rfl
  have f3 := hf 3 _ rfl
  simp only [List.getElem?_cons_zero, List.getElem?_cons_succ] at f0 f1 f2 f3
  obtain ⟨o, e0, _, _⟩ := DataW.trod_int Try.underlying36 f0
  have e0' : c0 = .int .i64 o := by injection e0
  subst e0'
  simp only [DataW.weights, Try.underlying41, DataW.weightsEach, List.map_cons, List.map_nil, List.all_append, Bool.and_eq_true] at hw
  obtain ⟨vs, hvs⟩ := open_strs (w := w) (v := c1) ⟨x1, f1, hw.2.1⟩
  obtain ⟨ts, hts⟩ := open_exs m c2 ⟨x2, f2, hw.2.2.1⟩
  obtain ⟨fs, hfs⟩ := ih m (by omega) c3 ⟨x3, f3, hw.2.2.2.1⟩
  refine ⟨.mk o vs ts fs, fun j => [Value.int .i64 o, c1, c2, c3][j]?.getD undef, fun j hj => ?_, fun j hj => ?_⟩
  · exact getD_lt _ _ _ (by simpa using hj)
  · match j, hj with
    | 0, _ => exact .leaf _
    | 1, _ => exact hvs
    | 2, _ => exact hts
    | 3, _ => exact hfs

theorem open_fms : ∀ (fuel : Nat) (v : Value), Reads enc w 39 [v] fuel → ∃ xs : List Fm, Rd w w.heap.size (.sl 4 (encFms xs)) v := by
  intro fuel
  induction fuel using Nat.strongRecOn with
  | ind fuel ih =>
    intro v h
    rcases h.slice Try.underlying39 (size := 4) (by kernel_rfl) (by omega) (of_decide_eq_true (by kernel_rfl)) with ⟨A, rfl⟩ | ⟨b, off, len, cap, n, rfl, rfl, h1, h2, h3, h4, h5⟩
    · exact ⟨[], Rd.nil_ A⟩
    · have key : ∃ xs : List Fm, Rd w w.heap.size (.sl 4 (xs.map encFm)) (.slice (some ⟨b, off, none⟩) len cap) := by
        refine rd_rows _ (fun x => by cases x; rfl) h1 h2 h3 h4 fun i hi => ?_
        obtain ⟨cs, hl, hc, hr⟩ := h5 i hi
        obtain ⟨f, us, hu, hrd⟩ := fm_row hl hr (fun m' hm' => ih m' (by omega))
        exact ⟨f, us, fun j hj => (hc j hj).trans (hu j hj), hrd⟩
      obtain ⟨xs, hxs⟩ := key
      exact ⟨xs, by rw [encFms_map]; exact hxs⟩

/-- ENTRIES COME IN. -/
theorem open_entries {fuel : Nat} {v : Value} (h : Reads enc w 22 [v] fuel) : ∃ l : List En, Rd w w.heap.size (.sl 7 (l.map encEn)) v := by
  rcases h.slice Try.underlying22 (size := 7) (by kernel_rfl) (by omega) (of_decide_eq_true (by kernel_rfl)) with ⟨A, rfl⟩ | ⟨b, off, len, cap, n, rfl, rfl, h1, h2, h3, h4, h5⟩
  · exact ⟨[], Rd.nil_ A⟩
  · refine rd_rows _ (fun x => by rcases x with ⟨_, _, _, ⟨_, _, _, _⟩⟩; rfl) h1 h2 h3 h4 fun i hi => ?_
    obtain ⟨cs, hl, hc, x, hx, hw⟩ := h5 i hi
    obtain ⟨c0, c1, c2, c3, c4, c5, c6, rfl⟩ : ∃ c0 c1 c2 c3 c4 c5 c6, cs = [c0, c1, c2, c3, c4, c5, c6] := by
      match cs, hl with
      | [c0, c1, c2, c3, c4, c5, c6], _ => exact ⟨_, _, _, _, _, _, _, rfl⟩
    obtain ⟨xs, m, rfl, rfl, _, hxl, hf⟩ := DataW.trod_struct Try.underlying43 hx
    obtain ⟨x0, x1, x2, x3, rfl⟩ : ∃ x0 x1 x2 x3, xs = [x0, x1, x2, x3] := by
      match xs, hxl with
      | [x0, x1, x2, x3], _ => exact ⟨_, _, _, _, rfl⟩
    have f0 := hf 0 _ rfl
    have f1 := hf 1 _ rfl
    have f2 := hf 2 _ rfl
    have f3 := hf 3 _ rfl
    simp only [List.getElem?_cons_zero, List.getElem?_cons_succ] at f0 f1 f2 f3
    obtain ⟨b', e0, _⟩ := DataW.trod_bool Try.underlying4 f0
    obtain ⟨s1, e1, _, _⟩ := DataW.trod_string Try.underlying9 f1
    obtain ⟨s2, e2, _, _⟩ := DataW.trod_string Try.underlying9 f2
    have e0' : c0 = .bool b' := by injection e0
    have e1' : c1 = .string s1 := by injection e1
    have e2' : c2 = .string s2 := by injection e2
    subst e0'
    subst e1'
    subst e2'
    simp only [DataW.weights, Try.underlying43, DataW.weightsEach, List.map_cons, List.map_nil, List.all_append, Bool.and_eq_true] at hw
    obtain ⟨f, us, hu, hrd⟩ := fm_row (cs := [c3, c4, c5, c6]) rfl ⟨x3, f3, hw.2.2.2.1⟩ (fun m' _ => open_fms m')
    refine ⟨⟨b', s1, s2, f⟩, fun j => if j < 3 then [Value.bool b', .string s1, .string s2][j]?.getD undef else us (j - 3), fun j hj => ?_, fun j hj => ?_⟩
    · rw [hc j hj]
      match j, hj with
      | 0, _ => rfl
      | 1, _ => rfl
      | 2, _ => rfl
      | 3, _ => exact hu 0 (by omega)
      | 4, _ => exact hu 1 (by omega)
      | 5, _ => exact hu 2 (by omega)
      | 6, _ => exact hu 3 (by omega)
    · match j, hj with
      | 0, _ => exact .leaf _
      | 1, _ => exact .leaf _
      | 2, _ => exact .leaf _
      | j + 3, hj => exact hrd j (by simpa [encEn] using hj)
end

theorem cells_slice {W : World} {base : Nat} {t e : TypeId} {v : Value} (hu : Try.prog.underlying t = some (.slice e)) (h : Value.okWide Try.prog W .any base t v) : v.cells.toList = [v] := by
  unfold Value.okWide at h
  rw [hu] at h
  simp only [Cell.okWide, hu, Cell.ok] at h
  cases v <;> first | rfl | exact h.elim | (simp at h)

/-- ENTRIES COME IN, as an argument. -/
theorem open_entries_arg {H : Type} {enc : TypeId × Value → H} {W : World} {base : Nat} {v : Value} {d : DataW H} {ps : List MemPlace} (hval : Value.okWide Try.prog W .any base 22 v) (h : DataW.Trod enc Try.prog W 0 (fun _ => true) true 22 v d ps)
    (hz : (d.weights Try.prog 22).all (· ≤ reachBytes) = true) : ∃ l : List En, Rd W W.heap.size (.sl 7 (l.map encEn)) v := by
  obtain ⟨fuel, hf⟩ := h
  rw [cells_slice Try.underlying22 hval] at hf
  exact open_entries ⟨_, hf, hz⟩

/-! ## Behind the call -/
section
variable {H : Type} {enc : TypeId × Value → H} {W W' : World}

theorem trodAll_below : ∀ {ts : List TypeId} {vs : List Value} {ds : List (DataW H)} {ps : List MemPlace}, laidOutB Try.prog = true → (∀ t ∈ ts, Try.prog.readableRec t = true ∧ t < Try.prog.types.size) →
    DataW.TrodAll enc Try.prog W 0 (fun _ => true) true ts vs ds ps → (∀ x ∈ ps, x.block < W.heap.size) → Below W.heap.size W W' → DataW.TrodAll enc Try.prog W' 0 (fun b => decide (b < W.heap.size)) true ts vs ds ps
  | [], vs, ds, ps, _, _, h, _, _ => by
    cases vs <;> cases ds <;> exact h
  | t :: ts, vs, ds, ps, hl, ht, h, hlt, hb => by
    obtain ⟨v, vs', d, ds', p, q, rfl, rfl, rfl, hd, hr⟩ := trodAll_cons h
    have ht1 := ht t (List.mem_cons_self ..)
    exact ⟨p, q, Below.trod hl ht1.1 ht1.2 hd hb (fun x hx => hlt x (List.mem_append_left _ hx)), trodAll_below hl (fun u hu => ht u (List.mem_cons_of_mem _ hu)) hr (fun x hx => hlt x (List.mem_append_right _ hx)) hb, rfl⟩

/-- A LAW's END: it handed back true, what there was is as it was. -/
theorem law_post {fn : Func} {s : ChangeSpec} {args : Array Value} {ds gs : List (DataW H)} {before : List MemPlace} (hres : fn.resultTypes = #[4]) (hv : s.vars = []) (hro : ∀ t ∈ fn.params.toList, Try.prog.readableRec t = true ∧ t < Try.prog.types.size)
    (hl : laidOutB Try.prog = true) (hs : s.fn H (ds ++ gs) = { results := [.lit (.bool true)], args := ds }) (hW : DataW.Whole enc Try.prog fn.params.toList s.vars false W args.toList ds gs before) (hb : Below W.heap.size W W') :
    s.post enc Try.prog fn false true false false W args (.bool true) W' := by
  have hlt := hW.lt
  have hW' := hW
  obtain ⟨p, q, hA, hV, rfl, _, _⟩ := hW'
  refine ⟨ds, gs, p ++ q, [], p, [], hW, ?_, ?_, ?_, hb.frame _, fun h => by cases h⟩
  · rw [hres, hs]
    exact trodAll_mk1 (shut_bool Try.underlying4 _)
  · rw [hs]
    exact trodAll_below hl hro hA (fun x hx => hlt x (List.mem_append_left _ hx)) hb
  · rw [hs, hv]
    exact rfl
end

end Go.Proofs.Ytikgjappablbhaa
