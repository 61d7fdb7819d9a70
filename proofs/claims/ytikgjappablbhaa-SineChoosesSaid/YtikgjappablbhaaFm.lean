/-
  Terms, formulas, entries as trees, how they lie in memory, and their sizes. It imports nothing of the program.
-/
import Derived.Test.YtikgjappablbhaaRd
namespace Go.Proofs.Ytikgjappablbhaa
open Go.RowKit

theorem Rd.sl_form {w : World} {B size : Nat} {rows : List (List Tr)} {v : Value} (h : Rd w B (.sl size rows) v) : ∃ A c, v = .slice A rows.length c ∧ rows.length ≤ c ∧ rows.length ≤ 140737488351232 ∧ c ≤ maxLen := by
  rcases h.sl_inv with ⟨rfl, A, rfl⟩ | ⟨b, off, c, us, rfl, h1, h2, h3, _⟩
  · exact ⟨A, 0, rfl, Nat.le_refl _, Nat.zero_le _, Nat.zero_le _⟩
  · exact ⟨_, c, rfl, h1, h2, h3⟩

/-- The k-th row of a slice that reads: where it lies, and its cells. -/
theorem Rd.at_ {w : World} {B k n c size : Nat} {A : Option Addr} {rows : List (List Tr)} (h : Rd w B (.sl size rows) (.slice A n c)) (hk : k < rows.length) :
    ∃ (ab off : Nat) (us : Nat → Value), A = some ⟨ab, off, none⟩ ∧ ab < B ∧ (∀ j, j < size → w.cell? ⟨ab, off + k * size + j, none⟩ = some (us j)) ∧
      (∀ j (h' : j < rows[k].length), Rd w B rows[k][j] (us j)) := by
  rcases h.sl_inv with ⟨rfl, _⟩ | ⟨ab, off, c', us, hv, _, _, _, hb, hc, hr⟩
  · simp at hk
  · injection hv with hA _ _
    exact ⟨ab, off, us k, hA, hb, fun j hj => hc k j hk hj, fun j hj => hr k hk j hj⟩

inductive Ex where
  | mk (var : Bool) (name : ByteArray) (args : List Ex)

mutual
def encEx : Ex → List Tr
  | .mk b s xs => [.leaf (.bool b), .leaf (.string s), .sl 3 (encExs xs)]
def encExs : List Ex → List (List Tr)
  | [] => []
  | e :: es => encEx e :: encExs es
end
theorem encExs_map (xs : List Ex) : encExs xs = xs.map encEx := by
  induction xs with
  | nil => rfl
  | cons x xs ih => simp [encExs, ih]
theorem encExs_len (xs : List Ex) : (encExs xs).length = xs.length := by simp [encExs_map]

theorem Rd.ex_at {w : World} {B k n c : Nat} {A : Option Addr} {xs : List Ex} (h : Rd w B (.sl 3 (encExs xs)) (.slice A n c)) (hk : k < xs.length) :
    ∃ ab off b s ys u, A = some ⟨ab, off, none⟩ ∧ xs[k] = .mk b s ys ∧ ab < B ∧ w.cell? ⟨ab, off + k * 3, none⟩ = some (.bool b) ∧ w.cell? ⟨ab, off + k * 3 + 1, none⟩ = some (.string s) ∧
      w.cell? ⟨ab, off + k * 3 + 2, none⟩ = some u ∧ Rd w B (.sl 3 (encExs ys)) u := by
  have hl := encExs_len xs
  obtain ⟨ab, off, us, hA, hb, hc, hr⟩ := h.at_ (k := k) (by omega)
  have hrow : (encExs xs)[k]'(by omega) = encEx xs[k] := by simp [encExs_map]
  rcases hxk : xs[k] with ⟨b, s, ys⟩
  rw [hxk] at hrow
  have h0 := hr 0 (by rw [hrow]; simp [encEx])
  have h1 := hr 1 (by rw [hrow]; simp [encEx])
  have h2 := hr 2 (by rw [hrow]; simp [encEx])
  simp only [hrow, encEx, List.getElem_cons_zero, List.getElem_cons_succ] at h0 h1 h2
  have e0 := h0.leaf_inv
  have e1 := h1.leaf_inv
  exact ⟨ab, off, b, s, ys, us 2, hA, rfl, hb, by rw [← e0]; exact hc 0 (by omega), by rw [← e1]; exact hc 1 (by omega), hc 2 (by omega), h2⟩

inductive Fm where
  | mk (op : Int) (vars : List ByteArray) (terms : List Ex) (args : List Fm)

mutual
def encFm : Fm → List Tr
  | .mk o vs ts fs => [.leaf (.int .i64 o), .sl 1 (vs.map fun s => [.leaf (.string s)]), .sl 3 (encExs ts), .sl 4 (encFms fs)]
def encFms : List Fm → List (List Tr)
  | [] => []
  | e :: es => encFm e :: encFms es
end
theorem encFms_map (xs : List Fm) : encFms xs = xs.map encFm := by
  induction xs with
  | nil => rfl
  | cons x xs ih => simp [encFms, ih]
theorem encFms_len (xs : List Fm) : (encFms xs).length = xs.length := by simp [encFms_map]

/-- A formula's three slices read. -/
def RdF (w : World) (B : Nat) : Fm → Int → Value → Value → Value → Prop
  | .mk o vs ts fs, o', v, t, a => o = o' ∧ Rd w B (.sl 1 (vs.map fun s => [.leaf (.string s)])) v ∧ Rd w B (.sl 3 (encExs ts)) t ∧ Rd w B (.sl 4 (encFms fs)) a

theorem RdF.keep {w w' : World} {B : Nat} {f : Fm} {o : Int} {v t a : Value} (h : RdF w B f o v t a) (hk : ∀ p : Addr, p.block < B → w'.cell? p = w.cell? p) : RdF w' B f o v t a := by
  cases f; exact ⟨h.1, h.2.1.keep hk, h.2.2.1.keep hk, h.2.2.2.keep hk⟩
theorem RdF.more {w : World} {B B' : Nat} {f : Fm} {o : Int} {v t a : Value} (h : RdF w B f o v t a) (hB : B ≤ B') : RdF w B' f o v t a := by
  cases f; exact ⟨h.1, h.2.1.more hB, h.2.2.1.more hB, h.2.2.2.more hB⟩
theorem RdF.low {w w' : World} {B B' : Nat} {f : Fm} {o : Int} {v t a : Value} (h : RdF w B f o v t a) (hb : Below B' w w') (hB : B ≤ B') : RdF w' B f o v t a := h.keep fun p hp => hb.cell (by omega)

theorem RdF.forms {w : World} {B : Nat} {f : Fm} {o : Int} {v t a : Value} (h : RdF w B f o v t a) : ∃ A1 A2 A3 n1 n2 n3 c1 c2 c3, v = .slice A1 n1 c1 ∧ t = .slice A2 n2 c2 ∧ a = .slice A3 n3 c3 := by
  cases f
  obtain ⟨A1, c1, h1, _⟩ := h.2.1.sl_form
  obtain ⟨A2, c2, h2, _⟩ := h.2.2.1.sl_form
  obtain ⟨A3, c3, h3, _⟩ := h.2.2.2.sl_form
  exact ⟨A1, A2, A3, _, _, _, c1, c2, c3, h1, h2, h3⟩

theorem Rd.fm_at {w : World} {B k n c : Nat} {A : Option Addr} {xs : List Fm} (h : Rd w B (.sl 4 (encFms xs)) (.slice A n c)) (hk : k < xs.length) :
    ∃ ab off o v t a, A = some ⟨ab, off, none⟩ ∧ ab < B ∧ w.cell? ⟨ab, off + k * 4, none⟩ = some (.int .i64 o) ∧ w.cell? ⟨ab, off + k * 4 + 1, none⟩ = some v ∧
      w.cell? ⟨ab, off + k * 4 + 2, none⟩ = some t ∧ w.cell? ⟨ab, off + k * 4 + 3, none⟩ = some a ∧ RdF w B xs[k] o v t a := by
  have hl := encFms_len xs
  obtain ⟨ab, off, us, hA, hb, hc, hr⟩ := h.at_ (k := k) (by omega)
  have hrow : (encFms xs)[k]'(by omega) = encFm xs[k] := by simp [encFms_map]
  rcases hxk : xs[k] with ⟨o, vs, ts, fs⟩
  rw [hxk] at hrow
  have h0 := hr 0 (by rw [hrow]; simp [encFm])
  have h1 := hr 1 (by rw [hrow]; simp [encFm])
  have h2 := hr 2 (by rw [hrow]; simp [encFm])
  have h3 := hr 3 (by rw [hrow]; simp [encFm])
  simp only [hrow, encFm, List.getElem_cons_zero, List.getElem_cons_succ] at h0 h1 h2 h3
  have e0 := h0.leaf_inv
  exact ⟨ab, off, o, us 1, us 2, us 3, hA, hb, by rw [← e0]; exact hc 0 (by omega), hc 1 (by omega), hc 2 (by omega), hc 3 (by omega), rfl, h1, h2, h3⟩

/-- An entry of a problem. -/
structure En where
  cnf : Bool
  name : ByteArray
  role : ByteArray
  form : Fm
def encEn (x : En) : List Tr := [.leaf (.bool x.cnf), .leaf (.string x.name), .leaf (.string x.role)] ++ encFm x.form
theorem Rd.en_at {w : World} {B k n c : Nat} {A : Option Addr} {xs : List En} (h : Rd w B (.sl 7 (xs.map encEn)) (.slice A n c)) (hk : k < xs.length) :
    ∃ ab off o v t a, A = some ⟨ab, off, none⟩ ∧ ab < B ∧ w.cell? ⟨ab, off + k * 7, none⟩ = some (.bool xs[k].cnf) ∧ w.cell? ⟨ab, off + k * 7 + 1, none⟩ = some (.string xs[k].name) ∧
      w.cell? ⟨ab, off + k * 7 + 2, none⟩ = some (.string xs[k].role) ∧ w.cell? ⟨ab, off + k * 7 + 3, none⟩ = some (.int .i64 o) ∧ w.cell? ⟨ab, off + k * 7 + 4, none⟩ = some v ∧
      w.cell? ⟨ab, off + k * 7 + 5, none⟩ = some t ∧ w.cell? ⟨ab, off + k * 7 + 6, none⟩ = some a ∧ RdF w B xs[k].form o v t a := by
  obtain ⟨ab, off, us, hA, hb, hc, hr⟩ := h.at_ (k := k) (by simpa using hk)
  have hrow : (xs.map encEn)[k]'(by simpa using hk) = encEn xs[k] := by simp
  rcases hxk : xs[k] with ⟨b, nm, ro, ⟨o, vs, ts, fs⟩⟩
  rw [hxk] at hrow
  have h0 := hr 0 (by rw [hrow]; simp [encEn, encFm])
  have h1 := hr 1 (by rw [hrow]; simp [encEn, encFm])
  have h2 := hr 2 (by rw [hrow]; simp [encEn, encFm])
  have h3 := hr 3 (by rw [hrow]; simp [encEn, encFm])
  have h4 := hr 4 (by rw [hrow]; simp [encEn, encFm])
  have h5 := hr 5 (by rw [hrow]; simp [encEn, encFm])
  have h6 := hr 6 (by rw [hrow]; simp [encEn, encFm])
  simp only [hrow, encEn, encFm, List.cons_append, List.nil_append, List.getElem_cons_zero, List.getElem_cons_succ] at h0 h1 h2 h3 h4 h5 h6
  have e0 := h0.leaf_inv
  have e1 := h1.leaf_inv
  have e2 := h2.leaf_inv
  have e3 := h3.leaf_inv
  exact ⟨ab, off, o, us 4, us 5, us 6, hA, hb, by rw [← e0]; exact hc 0 (by omega), by rw [← e1]; exact hc 1 (by omega), by rw [← e2]; exact hc 2 (by omega), by rw [← e3]; exact hc 3 (by omega), hc 4 (by omega), hc 5 (by omega), hc 6 (by omega), rfl, h4, h5, h6⟩

/-- A row of numbers. -/
theorem Rd.leaf_at {w : World} {B k n c : Nat} {A : Option Addr} {α : Type} {f : α → Value} {xs : List α} (h : Rd w B (.sl 1 (xs.map fun x => [.leaf (f x)])) (.slice A n c)) (hk : k < xs.length) :
    ∃ ab off, A = some ⟨ab, off, none⟩ ∧ ab < B ∧ w.cell? ⟨ab, off + k, none⟩ = some (f xs[k]) := by
  obtain ⟨ab, off, us, hA, hb, hc, hr⟩ := h.at_ (k := k) (by simpa using hk)
  have h0 := hr 0 (by simp)
  simp only [List.getElem_map, List.getElem_cons_zero] at h0
  have e0 := h0.leaf_inv
  have := hc 0 (by omega)
  refine ⟨ab, off, hA, hb, ?_⟩
  rw [← e0, ← this]
  simp

/-- A symbol: its name, how many arguments, whether it is a predicate's. -/
abbrev Sy := ByteArray × Nat × Bool
def encSy (s : Sy) : List Tr := [.leaf (.string s.1), .leaf (.int .i64 s.2.1), .leaf (.bool s.2.2)]
theorem Rd.sy_at {w : World} {B k n c : Nat} {A : Option Addr} {xs : List Sy} (h : Rd w B (.sl 3 (xs.map encSy)) (.slice A n c)) (hk : k < xs.length) :
    ∃ ab off, A = some ⟨ab, off, none⟩ ∧ ab < B ∧ w.cell? ⟨ab, off + k * 3, none⟩ = some (.string xs[k].1) ∧ w.cell? ⟨ab, off + k * 3 + 1, none⟩ = some (.int .i64 xs[k].2.1) ∧
      w.cell? ⟨ab, off + k * 3 + 2, none⟩ = some (.bool xs[k].2.2) := by
  obtain ⟨ab, off, us, hA, hb, hc, hr⟩ := h.at_ (k := k) (by simpa using hk)
  have h0 := hr 0 (by simp [encSy])
  have h1 := hr 1 (by simp [encSy])
  have h2 := hr 2 (by simp [encSy])
  simp only [List.getElem_map, encSy, List.getElem_cons_zero, List.getElem_cons_succ] at h0 h1 h2
  have e0 := h0.leaf_inv
  have e1 := h1.leaf_inv
  have e2 := h2.leaf_inv
  exact ⟨ab, off, hA, hb, by rw [← e0]; exact hc 0 (by omega), by rw [← e1]; exact hc 1 (by omega), by rw [← e2]; exact hc 2 (by omega)⟩

mutual
def sizeEx : Ex → Nat
  | .mk _ _ xs => sizeExs 1 xs
def sizeExs : Nat → List Ex → Nat
  | n, [] => n
  | n, e :: es => sizeExs (min (n + sizeEx e) 2147483647) es
end
mutual
def htEx : Ex → Nat
  | .mk _ _ xs => htExs xs + 1
def htExs : List Ex → Nat
  | [] => 0
  | e :: es => max (htEx e) (htExs es)
end
theorem htEx_le {xs : List Ex} {k : Nat} (hk : k < xs.length) : htEx xs[k] ≤ htExs xs := by
  induction xs generalizing k with
  | nil => simp at hk
  | cons x xs ih =>
    cases k with
    | zero => simp [htExs]; omega
    | succ k => have := ih (k := k) (by simpa using hk); simp [htExs]; omega
theorem sizeExs_snoc (n : Nat) (xs : List Ex) (e : Ex) : sizeExs n (xs ++ [e]) = min (sizeExs n xs + sizeEx e) 2147483647 := by
  induction xs generalizing n with
  | nil => simp [sizeExs]
  | cons x xs ih => simp [sizeExs, ih]
theorem sizeExs_le (n : Nat) (hn : n ≤ 2147483647) (xs : List Ex) : sizeExs n xs ≤ 2147483647 := by
  induction xs generalizing n with
  | nil => simpa [sizeExs]
  | cons x xs ih => exact ih _ (by omega)
theorem sizeEx_le (e : Ex) : sizeEx e ≤ 2147483647 := by
  cases e with
  | mk b s xs => exact sizeExs_le 1 (by omega) xs


def most : Nat := 2147483647
mutual
def sizeFm : Fm → Nat
  | .mk _ vs ts fs => sizeFms (sizeExs (min (1 + vs.length) 2147483647) ts) fs
def sizeFms : Nat → List Fm → Nat
  | n, [] => n
  | n, e :: es => sizeFms (min (n + sizeFm e) 2147483647) es
end
mutual
def htFm : Fm → Nat
  | .mk _ _ _ fs => htFms fs + 1
def htFms : List Fm → Nat
  | [] => 0
  | e :: es => max (htFm e) (htFms es)
end
theorem htFm_le {xs : List Fm} {k : Nat} (hk : k < xs.length) : htFm xs[k] ≤ htFms xs := by
  induction xs generalizing k with
  | nil => simp at hk
  | cons x xs ih =>
    cases k with
    | zero => simp [htFms]; omega
    | succ k => have := ih (k := k) (by simpa using hk); simp [htFms]; omega
theorem htFms_snoc (xs : List Fm) (e : Fm) : htFms (xs ++ [e]) = max (htFms xs) (htFm e) := by
  induction xs with
  | nil => simp [htFms]
  | cons x xs ih => simp [htFms, ih, Nat.max_assoc]
theorem sizeFms_snoc (n : Nat) (xs : List Fm) (e : Fm) : sizeFms n (xs ++ [e]) = min (sizeFms n xs + sizeFm e) 2147483647 := by
  induction xs generalizing n with
  | nil => simp [sizeFms]
  | cons x xs ih => simp [sizeFms, ih]
theorem sizeFms_le (n : Nat) (hn : n ≤ 2147483647) (xs : List Fm) : sizeFms n xs ≤ 2147483647 := by
  induction xs generalizing n with
  | nil => simpa [sizeFms]
  | cons x xs ih => exact ih _ (by omega)
theorem sizeFm_le (e : Fm) : sizeFm e ≤ 2147483647 := by
  cases e with
  | mk b s t xs => exact sizeFms_le _ (sizeExs_le _ (by omega) _) xs

mutual
theorem htEx_size : ∀ e : Ex, min (htEx e) 2147483647 ≤ sizeEx e
  | .mk b s xs => by
    have := htExs_size 1 xs
    simp only [htEx, sizeEx]; omega
theorem htExs_size : ∀ (n : Nat) (xs : List Ex), min (htExs xs + n) 2147483647 ≤ sizeExs n xs
  | n, [] => by simp [htExs, sizeExs]; omega
  | n, e :: es => by
    have h1 := htEx_size e
    have h2 := htExs_size (min (n + sizeEx e) 2147483647) es
    simp only [htExs, sizeExs]; omega
end
theorem sizeExs_ge : ∀ (n : Nat) (xs : List Ex), min n 2147483647 ≤ sizeExs n xs
  | n, [] => by simp [sizeExs]; omega
  | n, e :: es => by have := sizeExs_ge (min (n + sizeEx e) 2147483647) es; simp only [sizeExs]; omega
mutual
theorem htFm_size : ∀ f : Fm, min (htFm f) 2147483647 ≤ sizeFm f
  | .mk o vs ts fs => by
    have h1 := sizeExs_ge (min (1 + vs.length) 2147483647) ts
    have h2 := htFms_size (sizeExs (min (1 + vs.length) 2147483647) ts) fs
    simp only [htFm, sizeFm]; omega
theorem htFms_size : ∀ (n : Nat) (xs : List Fm), min (htFms xs + n) 2147483647 ≤ sizeFms n xs
  | n, [] => by simp [htFms, sizeFms]; omega
  | n, e :: es => by
    have h1 := htFm_size e
    have h2 := htFms_size (min (n + sizeFm e) 2147483647) es
    simp only [htFms, sizeFms]; omega
end

/-- Is a formula great? -/
def greatFm (f : Fm) : Bool := decide (3000 < sizeFm f) || decide (400 < htFm f)

end Go.Proofs.Ytikgjappablbhaa
