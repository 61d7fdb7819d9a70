/-
  The symbols of terms and formulas, as lists; plain.
-/
import Derived.Test.YtikgjappablbhaaFm
import Derived.Test.YtikgjappablbhaaOwn
namespace Go.Proofs.Ytikgjappablbhaa
open Go.RowKit

/-- A symbol's cells. -/
def svs (s : Sy) : List Value := [.string s.1, .int .i64 s.2.1, .bool s.2.2]
theorem svs_len (s : Sy) : (svs s).length = 3 := rfl
theorem Own.sy_at {w : World} {base k n c : Nat} {e : TypeId} {A : Option Addr} {l : List Sy} (h : Own w base e 3 (.slice A n c) (l.map svs)) (hk : k < l.length) :
    ∃ g, A = some ⟨g, 0, none⟩ ∧ base ≤ g ∧ g < w.heap.size ∧ w.cell? ⟨g, k * 3, none⟩ = some (.string l[k].1) ∧ w.cell? ⟨g, k * 3 + 1, none⟩ = some (.int .i64 l[k].2.1) ∧ w.cell? ⟨g, k * 3 + 2, none⟩ = some (.bool l[k].2.2) := by
  obtain ⟨g, hA, hb, hg, hc, _⟩ := h.row_at (k := k) (by simpa using hk) (by omega)
  have h0 := hc 0 (by omega)
  have h1 := hc 1 (by omega)
  have h2 := hc 2 (by omega)
  simp only [List.getElem_map, svs, List.getElem_cons_zero, List.getElem_cons_succ, Nat.add_zero] at h0 h1 h2
  exact ⟨g, hA, hb, hg, h0, h1, h2⟩
theorem encSy_svs (l : List Sy) : (l.map svs).map (fun r => r.map Tr.leaf) = l.map encSy := by
  simp [svs, encSy]

mutual
/-- How many symbols and variables. -/
def nodesEx : Ex → Nat
  | .mk _ _ xs => nodesExs xs + 1
def nodesExs : List Ex → Nat
  | [] => 0
  | e :: es => nodesEx e + nodesExs es
end
mutual
def nodesFm : Fm → Nat
  | .mk _ vs ts fs => 1 + vs.length + nodesExs ts + nodesFms fs
def nodesFms : List Fm → Nat
  | [] => 0
  | e :: es => nodesFm e + nodesFms es
end
mutual
theorem sizeEx_nodes : ∀ e : Ex, sizeEx e = min (nodesEx e) 2147483647
  | .mk b s xs => by
    have := sizeExs_nodes 1 xs (by omega)
    simp only [sizeEx, nodesEx]; omega
theorem sizeExs_nodes : ∀ (n : Nat) (xs : List Ex), n ≤ 2147483647 → sizeExs n xs = min (n + nodesExs xs) 2147483647
  | n, [], h => by simp [sizeExs, nodesExs]; omega
  | n, e :: es, h => by
    have h1 := sizeEx_nodes e
    have h2 := sizeExs_nodes (min (n + sizeEx e) 2147483647) es (by omega)
    simp only [sizeExs, nodesExs]; omega
end
mutual
theorem sizeFm_nodes : ∀ e : Fm, sizeFm e = min (nodesFm e) 2147483647
  | .mk o vs ts fs => by
    have h1 := sizeExs_nodes (min (1 + vs.length) 2147483647) ts (by omega)
    have h2 := sizeFms_nodes (sizeExs (min (1 + vs.length) 2147483647) ts) fs (by omega)
    simp only [sizeFm, nodesFm]; omega
theorem sizeFms_nodes : ∀ (n : Nat) (xs : List Fm), n ≤ 2147483647 → sizeFms n xs = min (n + nodesFms xs) 2147483647
  | n, [], h => by simp [sizeFms, nodesFms]; omega
  | n, e :: es, h => by
    have h1 := sizeFm_nodes e
    have h2 := sizeFms_nodes (min (n + sizeFm e) 2147483647) es (by omega)
    simp only [sizeFms, nodesFms]; omega
end
theorem nodes_of_not_great {f : Fm} (h : greatFm f = false) : nodesFm f ≤ 3000 ∧ htFm f ≤ 400 := by
  simp [greatFm] at h
  have := sizeFm_nodes f
  omega

theorem nodesExs_take {xs : List Ex} {k : Nat} (hk : k < xs.length) : nodesExs (xs.take k) + nodesEx xs[k] ≤ nodesExs xs := by
  induction xs generalizing k with
  | nil => simp at hk
  | cons x xs ih =>
    cases k with
    | zero => simp [nodesExs]
    | succ k => have := ih (k := k) (by simpa using hk); simp [nodesExs]; omega
theorem nodesFms_take {xs : List Fm} {k : Nat} (hk : k < xs.length) : nodesFms (xs.take k) + nodesFm xs[k] ≤ nodesFms xs := by
  induction xs generalizing k with
  | nil => simp at hk
  | cons x xs ih =>
    cases k with
    | zero => simp [nodesFms]
    | succ k => have := ih (k := k) (by simpa using hk); simp [nodesFms]; omega
theorem nodesExs_append (xs ys : List Ex) : nodesExs (xs ++ ys) = nodesExs xs + nodesExs ys := by
  induction xs with
  | nil => simp [nodesExs]
  | cons x xs ih => simp [nodesExs, ih]; omega
theorem nodesFms_append (xs ys : List Fm) : nodesFms (xs ++ ys) = nodesFms xs + nodesFms ys := by
  induction xs with
  | nil => simp [nodesFms]
  | cons x xs ih => simp [nodesFms, ih]; omega

/-- A symbol behind the others, if it is not there. -/
def hasSy (l : List Sy) (s : Sy) : Bool := l.any fun x => decide (x = s)
theorem hasSy_iff (l : List Sy) (s : Sy) : hasSy l s = true ↔ s ∈ l := by simp [hasSy]
theorem hasSy_not (l : List Sy) (s : Sy) : hasSy l s = false ↔ s ∉ l := by rw [← hasSy_iff]; simp
theorem hasSy_snoc (l : List Sy) (x s : Sy) : hasSy (l ++ [x]) s = (hasSy l s || decide (x = s)) := by simp [hasSy]
def addSy (l : List Sy) (s : Sy) : List Sy := if hasSy l s then l else l ++ [s]
mutual
/-- A term's symbols, behind those that are there. -/
def symsEx (pred : Bool) (l : List Sy) : Ex → List Sy
  | .mk b s xs => symsExs false (if b then l else addSy l (s, xs.length, pred)) xs
def symsExs (pred : Bool) (l : List Sy) : List Ex → List Sy
  | [] => l
  | e :: es => symsExs pred (symsEx pred l e) es
end
/-- Is it an atom's op? -/
def isAtom (o : Int) : Bool := decide (o = 3)
mutual
/-- A formula's symbols, behind those that are there. -/
def symsFm (l : List Sy) : Fm → List Sy
  | .mk o _ ts fs => symsFms (symsExs (isAtom o) l ts) fs
def symsFms (l : List Sy) : List Fm → List Sy
  | [] => l
  | e :: es => symsFms (symsFm l e) es
end

theorem symsExs_append (p : Bool) (l : List Sy) (xs ys : List Ex) : symsExs p l (xs ++ ys) = symsExs p (symsExs p l xs) ys := by
  induction xs generalizing l with
  | nil => rfl
  | cons x xs ih => simp [symsExs, ih]
theorem symsExs_snoc (p : Bool) (l : List Sy) (xs : List Ex) (k : Nat) (hk : k < xs.length) : symsExs p l (xs.take (k + 1)) = symsEx p (symsExs p l (xs.take k)) xs[k] := by
  rw [List.take_succ_eq_append_getElem hk, symsExs_append]; rfl
theorem symsFms_append (l : List Sy) (xs ys : List Fm) : symsFms l (xs ++ ys) = symsFms (symsFms l xs) ys := by
  induction xs generalizing l with
  | nil => rfl
  | cons x xs ih => simp [symsFms, ih]
theorem symsFms_snoc (l : List Sy) (xs : List Fm) (k : Nat) (hk : k < xs.length) : symsFms l (xs.take (k + 1)) = symsFm (symsFms l (xs.take k)) xs[k] := by
  rw [List.take_succ_eq_append_getElem hk, symsFms_append]; rfl

theorem addSy_len (l : List Sy) (s : Sy) : (addSy l s).length ≤ l.length + 1 := by
  unfold addSy; split <;> simp
mutual
theorem symsEx_len (p : Bool) : ∀ (l : List Sy) (e : Ex), (symsEx p l e).length ≤ l.length + nodesEx e
  | l, .mk b s xs => by
    have h := symsExs_len false (if b then l else addSy l (s, xs.length, p)) xs
    have h2 := addSy_len l (s, xs.length, p)
    simp only [symsEx, nodesEx]
    cases b
    · simp only [Bool.false_eq_true, if_false] at h ⊢; omega
    · simp only [if_true] at h ⊢; omega
theorem symsExs_len (p : Bool) : ∀ (l : List Sy) (xs : List Ex), (symsExs p l xs).length ≤ l.length + nodesExs xs
  | l, [] => by simp [symsExs, nodesExs]
  | l, e :: es => by
    have h1 := symsEx_len p l e
    have h2 := symsExs_len p (symsEx p l e) es
    simp only [symsExs, nodesExs]; omega
end
mutual
theorem symsFm_len : ∀ (l : List Sy) (e : Fm), (symsFm l e).length ≤ l.length + nodesFm e
  | l, .mk o vs ts fs => by
    have h := symsExs_len (isAtom o) l ts
    have h2 := symsFms_len (symsExs (isAtom o) l ts) fs
    simp only [symsFm, nodesFm]; omega
theorem symsFms_len : ∀ (l : List Sy) (xs : List Fm), (symsFms l xs).length ≤ l.length + nodesFms xs
  | l, [] => by simp [symsFms, nodesFms]
  | l, e :: es => by
    have h1 := symsFm_len l e
    have h2 := symsFms_len (symsFm l e) es
    simp only [symsFms, nodesFms]; omega
end

end Go.Proofs.Ytikgjappablbhaa
