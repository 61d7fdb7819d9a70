/-
  Walks over law17.atom, law17.small: the document's five entries.
-/
import Derived.Test.YtikgjappablbhaaAnyInv
import Derived.Test.YtikgjappablbhaaSineA
namespace Go.Proofs.Ytikgjappablbhaa
open Go.RowKit

/-- p of a; p alone, where a is empty. -/
def atomF (p a : ByteArray) : Fm := .mk 3 [] [.mk false p (if a.data.toList.isEmpty then [] else [.mk false a []])] []

theorem rd_ex1 {w : World} {B b : Nat} {t : TypeId} {fr : Nat × Nat} {bv : Bool} {s : ByteArray} {v : Value} {xs : List Ex} (hb : w.heap[b]? = some (.cells #[.bool bv, .string s, v] t fr)) (hB : b < B) (hv : Rd w B (.sl 3 (encExs xs)) v) :
    Rd w B (.sl 3 (encExs [.mk bv s xs])) (.slice (some ⟨b, 0, none⟩) 1 1) :=
  rd_block (rows := encExs [.mk bv s xs]) (us := fun _ j => [Value.bool bv, .string s, v][j]?.getD undef) hb hB (by simp [encExs, encEx]) (by simp [encExs])
    (fun k j hk hj => by
      have : k = 0 := by simpa [encExs] using hk
      subst this
      match j, hj with
      | 0, _ => rfl
      | 1, _ => rfl
      | 2, _ => rfl)
    (fun k hk j hj => by
      have : k = 0 := by simpa [encExs] using hk
      subst this
      match j, hj with
      | 0, _ => exact .leaf _
      | 1, _ => exact .leaf _
      | 2, _ => exact hv)

/-- A formula that is handed back. -/
def FmRes (f : Fm) (w : World) (e : Ending) (w' : World) : Prop :=
  ∃ o v1 v2 v3, e = .returned (.agg #[.int .i64 o, v1, v2, v3]) ∧ RdF w' w'.heap.size f o v1 v2 v3 ∧ Below w.heap.size w w'

theorem blank {a : ByteArray} (h : a.toList.isEmpty = true) : a.data.toList.isEmpty = true := by rw [ByteArray.toList_eq] at h; exact h
theorem not_blank {a : ByteArray} (h : ¬ a.toList.isEmpty = true) : a.data.toList.isEmpty = false := by rw [ByteArray.toList_eq] at h; simpa using h

set_option maxHeartbeats 1000000 in
theorem atom_any (p a : ByteArray) (w : World) : Calls Try.prog 31 #[.string p, .string a] w (FmRes (atomF p a) w) := by
  by_cases h : a.toList.isEmpty = true
  · have hf : atomF p a = .mk 3 [] [.mk false p []] [] := by unfold atomF; rw [blank h]; rfl
    rw [hf]
    clear hf
    go_enter Try.func31, Try.ntmps31
    go_wp2_with fail
    refine bodyPost_ret (v := .agg #[.int .i64 3, .slice none 0 0, .slice (some ⟨w.heap.size + 1 + 1, 0, none⟩) 1 1, .slice none 0 0]) (by simp [results, Try.results31, go_sem]) rfl ?_
    refine ⟨3, _, _, _, rfl, ⟨rfl, .none_ _, ?_, .none_ _⟩, ?_⟩
    · exact rd_ex1 (t := 71) (fr := (0, 0)) (by rw [alloc_get, if_pos (by simp)]) (by simp) (.none_ _)
    · exact (((below_box w _).alloc (by simp) _).alloc (by simp; omega) _)
  · have hf : atomF p a = .mk 3 [] [.mk false p [.mk false a []]] [] := by unfold atomF; rw [not_blank h]; rfl
    rw [hf]
    clear hf
    go_enter Try.func31, Try.ntmps31
    go_wp2_with fail
    refine bodyPost_ret (v := .agg #[.int .i64 3, .slice none 0 0, .slice (some ⟨w.heap.size + 1 + 1 + 1, 0, none⟩) 1 1, .slice none 0 0]) (by simp [results, Try.results31, go_sem]) rfl ?_
    refine ⟨3, _, _, _, rfl, ⟨rfl, .none_ _, ?_, .none_ _⟩, ?_⟩
    · exact rd_ex1 (t := 71) (fr := (0, 0)) (by rw [alloc_get, if_pos (by simp)]) (by simp) (rd_ex1 (b := w.heap.size + 1 + 1) (t := 71) (fr := (0, 0)) (by rw [alloc_get, if_neg (by simp), alloc_get, if_pos (by simp)]) (by simp) (.none_ _))
    · exact ((((below_box w _).alloc (by simp) _).alloc (by simp; omega) _).alloc (by simp; omega) _)

theorem flat_at {size : Nat} : ∀ {L : List (List Value)} {k j : Nat}, (∀ r ∈ L, r.length = size) → (h : k < L.length) → (h' : j < L[k].length) → L.flatten[k * size + j]? = some L[k][j]
  | [], k, j, _, h, _ => by simp at h
  | r :: L, 0, j, hl, h, h' => by
    simp only [List.getElem_cons_zero] at h'
    simp only [Nat.zero_mul, Nat.zero_add, List.flatten_cons, List.getElem_cons_zero]
    rw [List.getElem?_append_left h', List.getElem?_eq_getElem h']
  | r :: L, k + 1, j, hl, h, h' => by
    simp only [List.getElem_cons_succ] at h' ⊢
    have hr : r.length = size := hl r (List.mem_cons_self ..)
    rw [List.flatten_cons, List.getElem?_append_right (by rw [hr, Nat.succ_mul]; omega), hr, show (k + 1) * size + j - size = k * size + j by rw [Nat.succ_mul]; omega]
    exact flat_at (fun r hr => hl r (List.mem_cons_of_mem _ hr)) (by simpa using h) h'

/-- A row of values that reads. -/
def RowRd (w : World) (B : Nat) (r : List Tr) (vs : List Value) : Prop := ∀ j (h : j < r.length) (h' : j < vs.length), Rd w B r[j] vs[j]

theorem rd_flat {w : World} {b size n : Nat} {cs : Array Value} {t : TypeId} {fr : Nat × Nat} {rows : List (List Tr)} {L : List (List Value)} (hb : w.heap[b]? = some (.cells cs t fr)) (hB : b < w.heap.size) (hcs : cs = L.flatten.toArray) (hn : rows.length = n) (hL : L.length = n)
    (hl : ∀ r ∈ rows, r.length = size) (hl2 : ∀ r ∈ L, r.length = size) (hr : ∀ p ∈ rows.zip L, RowRd w w.heap.size p.1 p.2) (hm : n ≤ 1000000) : Rd w w.heap.size (.sl size rows) (.slice (some ⟨b, 0, none⟩) n n) := by
  subst hn
  refine rd_block (us := fun k j => ((L[k]?.getD [])[j]?).getD undef) hb hB hl hm (fun k j hk hj => ?_) (fun k hk j hj => ?_)
  · have hk' : k < L.length := by omega
    have hj' : j < L[k].length := by rw [hl2 _ (List.getElem_mem _)]; exact hj
    rw [hcs, List.getElem?_toArray, flat_at hl2 hk' hj', List.getElem?_eq_getElem hk']
    simp [hj']
  · have hk' : k < L.length := by omega
    have hj' : j < L[k].length := by rw [hl2 _ (List.getElem_mem _), ← hl _ (List.getElem_mem hk)]; exact hj
    have := hr (rows[k], L[k]) (by
      have := List.getElem_mem (l := rows.zip L) (n := k) (by simp; omega)
      simpa using this) j hj hj'
    simpa [hk', hj'] using this

theorem encFm_len (f : Fm) : (encFm f).length = 4 := by cases f; rfl
theorem encEn_len (x : En) : (encEn x).length = 7 := by rcases x with ⟨_, _, _, ⟨_, _, _, _⟩⟩; rfl
theorem RdF.row {w : World} {B : Nat} {f : Fm} {o : Int} {v1 v2 v3 : Value} (h : RdF w B f o v1 v2 v3) : RowRd w B (encFm f) [.int .i64 o, v1, v2, v3] := by
  cases f
  obtain ⟨rfl, h1, h2, h3⟩ := h
  intro j hj hj'
  match j, hj' with
  | 0, _ => exact .leaf _
  | 1, _ => exact h1
  | 2, _ => exact h2
  | 3, _ => exact h3
theorem en_row {w : World} {B : Nat} {x : En} {o : Int} {v1 v2 v3 : Value} (h : RdF w B x.form o v1 v2 v3) : RowRd w B (encEn x) [.bool x.cnf, .string x.name, .string x.role, .int .i64 o, v1, v2, v3] := by
  intro j hj hj'
  match j, hj' with
  | 0, _ => exact .leaf _
  | 1, _ => exact .leaf _
  | 2, _ => exact .leaf _
  | j + 3, hj' => exact h.row j (by simpa [encEn] using hj) (by simp at hj' ⊢; omega)
theorem RowRd.low {w w' : World} {r : List Tr} {vs : List Value} (h : RowRd w w.heap.size r vs) (hb : Below w.heap.size w w') : RowRd w' w'.heap.size r vs :=
  fun j hj hj' => ((h j hj hj').low hb (Nat.le_refl _)).more hb.size

/-! ## The five entries -/
abbrev bp : ByteArray := ⟨#[112]⟩
abbrev bq : ByteArray := ⟨#[113]⟩
abbrev br : ByteArray := ⟨#[114]⟩
abbrev bs : ByteArray := ⟨#[115]⟩
abbrev ba : ByteArray := ⟨#[97]⟩
abbrev bb : ByteArray := ⟨#[98]⟩
abbrev b0 : ByteArray := ⟨#[]⟩
abbrev bax : ByteArray := ⟨#[97, 120, 105, 111, 109]⟩
abbrev bco : ByteArray := ⟨#[99, 111, 110, 106, 101, 99, 116, 117, 114, 101]⟩
abbrev exA : Ex := .mk false ba []
def smallL : List En := [⟨false, ⟨#[110, 48]⟩, bax, atomF bp ba⟩, ⟨false, ⟨#[110, 49]⟩, bax, .mk 6 [] [] [atomF bp bb, atomF bq b0]⟩, ⟨false, ⟨#[110, 50]⟩, bax, .mk 6 [] [] [atomF bq b0, atomF br b0]⟩, ⟨false, ⟨#[110, 51]⟩, bax, atomF bs b0⟩, ⟨false, ⟨#[110, 52]⟩, bco, .mk 4 [] [exA, exA] []⟩]

def FmV (f : Fm) (v : Value) (w : World) : Prop := ∃ o v1 v2 v3, v = .agg #[.int .i64 o, v1, v2, v3] ∧ RdF w w.heap.size f o v1 v2 v3
def EnV (x : En) (v : Value) (w : World) : Prop := ∃ o v1 v2 v3, v = .agg #[.bool x.cnf, .string x.name, .string x.role, .int .i64 o, v1, v2, v3] ∧ RdF w w.heap.size x.form o v1 v2 v3
def RdV (t : Tr) (v : Value) (w : World) : Prop := Rd w w.heap.size t v
inductive Kind where
  | fm (f : Fm)
  | en (x : En)
  | rd (t : Tr)
  | val (v : Value)
def Kind.V : Kind → Value → World → Prop
  | .fm f => FmV f
  | .en x => EnV x
  | .rd t => RdV t
  | .val u => fun v _ => v = u
/-- What stands in each slot when its operation has come up. -/
def smallK : Nat → Kind
  | 0 => .fm (atomF bp ba)
  | 1 => .en ⟨false, ⟨#[110, 48]⟩, bax, atomF bp ba⟩
  | 2 => .fm (atomF bp bb)
  | 3 => .fm (atomF bq b0)
  | 4 => .rd (.sl 4 (encFms [atomF bp bb, atomF bq b0]))
  | 5 => .fm (.mk 6 [] [] [atomF bp bb, atomF bq b0])
  | 6 => .en ⟨false, ⟨#[110, 49]⟩, bax, .mk 6 [] [] [atomF bp bb, atomF bq b0]⟩
  | 7 => .fm (atomF bq b0)
  | 8 => .fm (atomF br b0)
  | 9 => .rd (.sl 4 (encFms [atomF bq b0, atomF br b0]))
  | 10 => .fm (.mk 6 [] [] [atomF bq b0, atomF br b0])
  | 11 => .en ⟨false, ⟨#[110, 50]⟩, bax, .mk 6 [] [] [atomF bq b0, atomF br b0]⟩
  | 12 => .fm (atomF bs b0)
  | 13 => .en ⟨false, ⟨#[110, 51]⟩, bax, atomF bs b0⟩
  | 14 => .val (.agg #[.bool false, .string ba, .slice none 0 0])
  | 15 => .val (.agg #[.bool false, .string ba, .slice none 0 0])
  | 16 => .rd (.sl 3 (encExs [exA, exA]))
  | 17 => .fm (.mk 4 [] [exA, exA] [])
  | 18 => .en ⟨false, ⟨#[110, 52]⟩, bco, .mk 4 [] [exA, exA] []⟩
  | _ => .rd (.sl 7 (smallL.map encEn))

def smallV (k : Nat) : Value → World → Prop := (smallK k).V

theorem FmV.low {f : Fm} {v : Value} {w w' : World} (hb : Below w.heap.size w w') (h : FmV f v w) : FmV f v w' := by
  obtain ⟨o, v1, v2, v3, rfl, hr⟩ := h
  exact ⟨o, v1, v2, v3, rfl, (hr.low hb (Nat.le_refl _)).more hb.size⟩
theorem EnV.low {f : En} {v : Value} {w w' : World} (hb : Below w.heap.size w w') (h : EnV f v w) : EnV f v w' := by
  obtain ⟨o, v1, v2, v3, rfl, hr⟩ := h
  exact ⟨o, v1, v2, v3, rfl, (hr.low hb (Nat.le_refl _)).more hb.size⟩
theorem RdV.low {f : Tr} {v : Value} {w w' : World} (hb : Below w.heap.size w w') (h : RdV f v w) : RdV f v w' := (Rd.low h hb (Nat.le_refl _)).more hb.size
theorem smallV_low (k : Nat) (v : Value) {w w' : World} (hb : Below w.heap.size w w') (h : smallV k v w) : smallV k v w' := by
  unfold smallV at h ⊢
  generalize smallK k = x at h ⊢
  cases x with
  | fm f => exact FmV.low hb h
  | en x => exact EnV.low hb h
  | rd t => exact RdV.low hb h
  | val u => exact h
def smallD (k : Nat) : Nat := if k = 20 then 0 else k + 3
theorem smallD_inj (k k' : Nat) (hk : k < 21) (hk' : k' < 21) (h : smallD k = smallD k') : k = k' := by
  unfold smallD at h
  split at h <;> split at h <;> omega

set_option maxRecDepth 100000 in
set_option maxHeartbeats 1000000 in
theorem small_any (w : World) : Calls Try.prog 20 #[] w (fun e w' => ∃ v, e = .returned v ∧ Rd w' w'.heap.size (.sl 7 (smallL.map encEn)) v ∧ Below w.heap.size w w') := by
  go_enter Try.func20, Try.ntmps20
  go_upto_region 2 with fail
  refine wp_region_any (by kernel_rfl) ?_
  have hb0 : Below w.heap.size w { (w.alloc (.cells #[.bool false, .string ba, .slice none 0 0] 71)) with drawn := (w.alloc (.cells #[.bool false, .string ba, .slice none 0 0] 71)).drawn + 1 } := (below_box w _).drew
  have hx : ({ (w.alloc (.cells #[.bool false, .string ba, .slice none 0 0] 71)) with drawn := (w.alloc (.cells #[.bool false, .string ba, .slice none 0 0] 71)).drawn + 1 } : World).heap[w.heap.size]? = some (.cells #[.bool false, .string ba, .slice none 0 0] 71 (0, 0)) := heap_alloc_new w _
  generalize ({ (w.alloc (.cells #[.bool false, .string ba, .slice none 0 0] 71)) with drawn := (w.alloc (.cells #[.bool false, .string ba, .slice none 0 0] 71)).drawn + 1 } : World) = W at hb0 hx ⊢
  refine wpAny_inv (RegInv smallV smallD 21 #[Value.slice none 0 0, Value.pointer (some { block := w.heap.size, off := 0 }), Value.agg #[Value.bool false, Value.string ba, Value.slice none 0 0], undef, undef, undef,
          undef, undef, undef, undef, undef, undef, undef, undef, undef, undef, undef, undef, undef, undef, undef, undef, undef] [] W) ?hs ?step ?fin _ _ _ _ ?_ ?_ ?init
  case hs =>
    intro i o ho
    have hi21 : i < 21 := (Array.getElem?_eq_some_iff.1 ho).1
    rcases (by omega : i = 0 ∨ i = 1 ∨ i = 2 ∨ i = 3 ∨ i = 4 ∨ i = 5 ∨ i = 6 ∨ i = 7 ∨ i = 8 ∨ i = 9 ∨ i = 10 ∨ i = 11 ∨ i = 12 ∨ i = 13 ∨ i = 14 ∨ i = 15 ∨ i = 16 ∨ i = 17 ∨ i = 18 ∨ i = 19 ∨ i = 20) with rfl | rfl | rfl | rfl | rfl | rfl | rfl | rfl | rfl | rfl | rfl | rfl | rfl | rfl | rfl | rfl | rfl | rfl | rfl | rfl | rfl
    all_goals obtain rfl := Option.some.inj (show some _ = some o from ho)
    all_goals simp
  case init => exact ⟨rfl, rfl, Below.refl _ _, fun _ _ => rfl, fun k hk h => by
    exfalso
    rw [Array.getD_eq_getD_getElem?, Array.getElem?_replicate] at h
    split at h <;> simp at h⟩
  case step =>
    intro listed a w' i o hz hI ho hdep
    have hi21 : i < 21 := (Array.getElem?_eq_some_iff.1 ho).1
    rcases (by omega : i = 0 ∨ i = 1 ∨ i = 2 ∨ i = 3 ∨ i = 4 ∨ i = 5 ∨ i = 6 ∨ i = 7 ∨ i = 8 ∨ i = 9 ∨ i = 10 ∨ i = 11 ∨ i = 12 ∨ i = 13 ∨ i = 14 ∨ i = 15 ∨ i = 16 ∨ i = 17 ∨ i = 18 ∨ i = 19 ∨ i = 20) with rfl | rfl | rfl | rfl | rfl | rfl | rfl | rfl | rfl | rfl | rfl | rfl | rfl | rfl | rfl | rfl | rfl | rfl | rfl | rfl | rfl
    all_goals obtain rfl := Option.some.inj (show some _ = some o from ho)
    · refine wpOp_of ho rfl ?_
      refine wp_enter (f := 31) (args := #[.string bp, .string ba]) (w' := w') (by simp [execOp, resolve, invoke, go_sem]) (atom_any _ _ w') ?_
      rintro e w'' ⟨o, v1, v2, v3, rfl, hr, hb⟩
      exact ⟨_, rfl, hI.put (fun k v => smallV_low k v) hb (by omega) smallD_inj (by simp [smallD]) (by simp [hz]) ⟨o, v1, v2, v3, rfl, hr⟩⟩
    · obtain ⟨o, v1, v2, v3, e, hr⟩ := hI.done 0 (by omega) (hdep ⟨0, .data⟩ (by simp) rfl)
      have e' : (a.tmps[3]?).getD undef = .agg #[.int .i64 o, v1, v2, v3] := by simpa [smallD] using e
      clear e
      refine wpOp_of ho rfl (wp_value (v := .agg #[.bool false, .string ⟨#[110, 48]⟩, .string bax, .int .i64 o, v1, v2, v3]) (w' := w') (by simp [execOp, e', go_sem]) ?_)
      exact hI.put (fun k v => smallV_low k v) (Below.refl _ _) (by omega) smallD_inj (by simp [smallD]) (by simp [hz]) ⟨o, v1, v2, v3, rfl, hr⟩
    · refine wpOp_of ho rfl ?_
      refine wp_enter (f := 31) (args := #[.string bp, .string bb]) (w' := w') (by simp [execOp, resolve, invoke, go_sem]) (atom_any _ _ w') ?_
      rintro e w'' ⟨o, v1, v2, v3, rfl, hr, hb⟩
      exact ⟨_, rfl, hI.put (fun k v => smallV_low k v) hb (by omega) smallD_inj (by simp [smallD]) (by simp [hz]) ⟨o, v1, v2, v3, rfl, hr⟩⟩
    · refine wpOp_of ho rfl ?_
      refine wp_enter (f := 31) (args := #[.string bq, .string b0]) (w' := w') (by simp [execOp, resolve, invoke, go_sem]) (atom_any _ _ w') ?_
      rintro e w'' ⟨o, v1, v2, v3, rfl, hr, hb⟩
      exact ⟨_, rfl, hI.put (fun k v => smallV_low k v) hb (by omega) smallD_inj (by simp [smallD]) (by simp [hz]) ⟨o, v1, v2, v3, rfl, hr⟩⟩
    · obtain ⟨o, v1, v2, v3, e, hr⟩ := hI.done 2 (by omega) (hdep ⟨2, .data⟩ (by simp) rfl)
      obtain ⟨o', u1, u2, u3, e2, hr2⟩ := hI.done 3 (by omega) (hdep ⟨3, .data⟩ (by simp) rfl)
      have e' : (a.tmps[5]?).getD undef = .agg #[.int .i64 o, v1, v2, v3] := by simpa [smallD] using e
      have e2' : (a.tmps[6]?).getD undef = .agg #[.int .i64 o', u1, u2, u3] := by simpa [smallD] using e2
      clear e e2
      refine wpOp_of ho rfl (wp_value (v := .slice (some ⟨w'.heap.size, 0, none⟩) 2 2) (w' := w'.alloc (.cells #[.int .i64 o, v1, v2, v3, .int .i64 o', u1, u2, u3] 41)) (by simp [execOp, e', e2', go_sem]) ?_)
      have hb := below_box w' (.cells #[.int .i64 o, v1, v2, v3, .int .i64 o', u1, u2, u3] 41)
      refine hI.put (fun k v => smallV_low k v) hb (by omega) smallD_inj (by simp [smallD]) (by simp [hz]) ?_
      refine (rd_flat (size := 4) (n := 2) (rows := encFms [atomF bp bb, atomF bq b0]) (L := [[.int .i64 o, v1, v2, v3], [.int .i64 o', u1, u2, u3]]) (heap_alloc_new w' _) (by simp) rfl rfl rfl (by simp [encFms, encFm_len]) (by simp) ?_ (by decide) : Rd _ _ _ _)
      intro p hp
      simp only [encFms, List.zip_cons_cons, List.zip_nil_right, List.mem_cons, List.not_mem_nil, or_false] at hp
      rcases hp with rfl | rfl
      · exact ((hr.low hb (Nat.le_refl _)).more hb.size).row
      · exact ((hr2.low hb (Nat.le_refl _)).more hb.size).row
    · have hr : Rd w' w'.heap.size (.sl 4 (encFms [atomF bp bb, atomF bq b0])) (a.tmps.getD (smallD 4) undef) := hI.done 4 (by omega) (hdep ⟨4, .data⟩ (by simp) rfl)
      obtain ⟨A, c, e, _⟩ := Rd.sl_form hr
      have e' : (a.tmps[7]?).getD undef = .slice A 2 c := by simpa [smallD, encFms, encExs] using e
      have hr' : Rd w' w'.heap.size (.sl 4 (encFms [atomF bp bb, atomF bq b0])) (.slice A 2 c) := by rw [← e']; simpa [smallD] using hr
      clear e hr
      refine wpOp_of ho rfl (wp_value (v := .agg #[.int .i64 6, .slice none 0 0, .slice none 0 0, .slice A 2 c]) (w' := w') (by simp [execOp, e', go_sem]) ?_)
      exact hI.put (fun k v => smallV_low k v) (Below.refl _ _) (by omega) smallD_inj (by simp [smallD]) (by simp [hz]) ⟨_, _, _, _, rfl, ⟨rfl, .none_ _, .none_ _, hr'⟩⟩
    · obtain ⟨o, v1, v2, v3, e, hr⟩ := hI.done 5 (by omega) (hdep ⟨5, .data⟩ (by simp) rfl)
      have e' : (a.tmps[8]?).getD undef = .agg #[.int .i64 o, v1, v2, v3] := by simpa [smallD] using e
      clear e
      refine wpOp_of ho rfl (wp_value (v := .agg #[.bool false, .string ⟨#[110, 49]⟩, .string bax, .int .i64 o, v1, v2, v3]) (w' := w') (by simp [execOp, e', go_sem]) ?_)
      exact hI.put (fun k v => smallV_low k v) (Below.refl _ _) (by omega) smallD_inj (by simp [smallD]) (by simp [hz]) ⟨o, v1, v2, v3, rfl, hr⟩
    · refine wpOp_of ho rfl ?_
      refine wp_enter (f := 31) (args := #[.string bq, .string b0]) (w' := w') (by simp [execOp, resolve, invoke, go_sem]) (atom_any _ _ w') ?_
      rintro e w'' ⟨o, v1, v2, v3, rfl, hr, hb⟩
      exact ⟨_, rfl, hI.put (fun k v => smallV_low k v) hb (by omega) smallD_inj (by simp [smallD]) (by simp [hz]) ⟨o, v1, v2, v3, rfl, hr⟩⟩
    · refine wpOp_of ho rfl ?_
      refine wp_enter (f := 31) (args := #[.string br, .string b0]) (w' := w') (by simp [execOp, resolve, invoke, go_sem]) (atom_any _ _ w') ?_
      rintro e w'' ⟨o, v1, v2, v3, rfl, hr, hb⟩
      exact ⟨_, rfl, hI.put (fun k v => smallV_low k v) hb (by omega) smallD_inj (by simp [smallD]) (by simp [hz]) ⟨o, v1, v2, v3, rfl, hr⟩⟩
    · obtain ⟨o, v1, v2, v3, e, hr⟩ := hI.done 7 (by omega) (hdep ⟨7, .data⟩ (by simp) rfl)
      obtain ⟨o', u1, u2, u3, e2, hr2⟩ := hI.done 8 (by omega) (hdep ⟨8, .data⟩ (by simp) rfl)
      have e' : (a.tmps[10]?).getD undef = .agg #[.int .i64 o, v1, v2, v3] := by simpa [smallD] using e
      have e2' : (a.tmps[11]?).getD undef = .agg #[.int .i64 o', u1, u2, u3] := by simpa [smallD] using e2
      clear e e2
      refine wpOp_of ho rfl (wp_value (v := .slice (some ⟨w'.heap.size, 0, none⟩) 2 2) (w' := w'.alloc (.cells #[.int .i64 o, v1, v2, v3, .int .i64 o', u1, u2, u3] 41)) (by simp [execOp, e', e2', go_sem]) ?_)
      have hb := below_box w' (.cells #[.int .i64 o, v1, v2, v3, .int .i64 o', u1, u2, u3] 41)
      refine hI.put (fun k v => smallV_low k v) hb (by omega) smallD_inj (by simp [smallD]) (by simp [hz]) ?_
      refine (rd_flat (size := 4) (n := 2) (rows := encFms [atomF bq b0, atomF br b0]) (L := [[.int .i64 o, v1, v2, v3], [.int .i64 o', u1, u2, u3]]) (heap_alloc_new w' _) (by simp) rfl rfl rfl (by simp [encFms, encFm_len]) (by simp) ?_ (by decide) : Rd _ _ _ _)
      intro p hp
      simp only [encFms, List.zip_cons_cons, List.zip_nil_right, List.mem_cons, List.not_mem_nil, or_false] at hp
      rcases hp with rfl | rfl
      · exact ((hr.low hb (Nat.le_refl _)).more hb.size).row
      · exact ((hr2.low hb (Nat.le_refl _)).more hb.size).row
    · have hr : Rd w' w'.heap.size (.sl 4 (encFms [atomF bq b0, atomF br b0])) (a.tmps.getD (smallD 9) undef) := hI.done 9 (by omega) (hdep ⟨9, .data⟩ (by simp) rfl)
      obtain ⟨A, c, e, _⟩ := Rd.sl_form hr
      have e' : (a.tmps[12]?).getD undef = .slice A 2 c := by simpa [smallD, encFms, encExs] using e
      have hr' : Rd w' w'.heap.size (.sl 4 (encFms [atomF bq b0, atomF br b0])) (.slice A 2 c) := by rw [← e']; simpa [smallD] using hr
      clear e hr
      refine wpOp_of ho rfl (wp_value (v := .agg #[.int .i64 6, .slice none 0 0, .slice none 0 0, .slice A 2 c]) (w' := w') (by simp [execOp, e', go_sem]) ?_)
      exact hI.put (fun k v => smallV_low k v) (Below.refl _ _) (by omega) smallD_inj (by simp [smallD]) (by simp [hz]) ⟨_, _, _, _, rfl, ⟨rfl, .none_ _, .none_ _, hr'⟩⟩
    · obtain ⟨o, v1, v2, v3, e, hr⟩ := hI.done 10 (by omega) (hdep ⟨10, .data⟩ (by simp) rfl)
      have e' : (a.tmps[13]?).getD undef = .agg #[.int .i64 o, v1, v2, v3] := by simpa [smallD] using e
      clear e
      refine wpOp_of ho rfl (wp_value (v := .agg #[.bool false, .string ⟨#[110, 50]⟩, .string bax, .int .i64 o, v1, v2, v3]) (w' := w') (by simp [execOp, e', go_sem]) ?_)
      exact hI.put (fun k v => smallV_low k v) (Below.refl _ _) (by omega) smallD_inj (by simp [smallD]) (by simp [hz]) ⟨o, v1, v2, v3, rfl, hr⟩
    · refine wpOp_of ho rfl ?_
      refine wp_enter (f := 31) (args := #[.string bs, .string b0]) (w' := w') (by simp [execOp, resolve, invoke, go_sem]) (atom_any _ _ w') ?_
      rintro e w'' ⟨o, v1, v2, v3, rfl, hr, hb⟩
      exact ⟨_, rfl, hI.put (fun k v => smallV_low k v) hb (by omega) smallD_inj (by simp [smallD]) (by simp [hz]) ⟨o, v1, v2, v3, rfl, hr⟩⟩
    · obtain ⟨o, v1, v2, v3, e, hr⟩ := hI.done 12 (by omega) (hdep ⟨12, .data⟩ (by simp) rfl)
      have e' : (a.tmps[15]?).getD undef = .agg #[.int .i64 o, v1, v2, v3] := by simpa [smallD] using e
      clear e
      refine wpOp_of ho rfl (wp_value (v := .agg #[.bool false, .string ⟨#[110, 51]⟩, .string bax, .int .i64 o, v1, v2, v3]) (w' := w') (by simp [execOp, e', go_sem]) ?_)
      exact hI.put (fun k v => smallV_low k v) (Below.refl _ _) (by omega) smallD_inj (by simp [smallD]) (by simp [hz]) ⟨o, v1, v2, v3, rfl, hr⟩
    · have e1 := hI.fix 1 (by intro k hk; unfold smallD; split <;> omega)
      have e1' : (a.tmps[1]?).getD undef = .pointer (some ⟨w.heap.size, 0, none⟩) := by simpa using e1
      have hx' := (hI.bel.block w.heap.size (ltOf hx)).trans hx
      have c := fun o => cell_of_row w' w.heap.size o _ _ _ hx'
      have c0 := c 0
      have c1 := c 1
      have c2 := c 2
      simp only [List.getElem?_toArray, List.getElem?_cons_zero, List.getElem?_cons_succ] at c0 c1 c2
      refine wpOp_of ho rfl (wp_value (v := .agg #[.bool false, .string ba, .slice none 0 0]) (w' := w') (by simp [execOp, e1', c0, c1, c2, go_sem]) ?_)
      exact hI.put (fun k v => smallV_low k v) (Below.refl _ _) (by omega) smallD_inj (by simp [smallD]) (by simp [hz]) rfl
    · have e1 := hI.fix 1 (by intro k hk; unfold smallD; split <;> omega)
      have e1' : (a.tmps[1]?).getD undef = .pointer (some ⟨w.heap.size, 0, none⟩) := by simpa using e1
      have hx' := (hI.bel.block w.heap.size (ltOf hx)).trans hx
      have c := fun o => cell_of_row w' w.heap.size o _ _ _ hx'
      have c0 := c 0
      have c1 := c 1
      have c2 := c 2
      simp only [List.getElem?_toArray, List.getElem?_cons_zero, List.getElem?_cons_succ] at c0 c1 c2
      refine wpOp_of ho rfl (wp_value (v := .agg #[.bool false, .string ba, .slice none 0 0]) (w' := w') (by simp [execOp, e1', c0, c1, c2, go_sem]) ?_)
      exact hI.put (fun k v => smallV_low k v) (Below.refl _ _) (by omega) smallD_inj (by simp [smallD]) (by simp [hz]) rfl
    · have e : a.tmps.getD (smallD 14) undef = _ := hI.done 14 (by omega) (hdep ⟨14, .data⟩ (by simp) rfl)
      have e2 : a.tmps.getD (smallD 15) undef = _ := hI.done 15 (by omega) (hdep ⟨15, .data⟩ (by simp) rfl)
      have e' : (a.tmps[17]?).getD undef = .agg #[.bool false, .string ba, .slice none 0 0] := by simpa [smallD] using e
      have e2' : (a.tmps[18]?).getD undef = .agg #[.bool false, .string ba, .slice none 0 0] := by simpa [smallD] using e2
      clear e e2
      refine wpOp_of ho rfl (wp_value (v := .slice (some ⟨w'.heap.size, 0, none⟩) 2 2) (w' := w'.alloc (.cells #[.bool false, .string ba, .slice none 0 0, .bool false, .string ba, .slice none 0 0] 71)) (by simp [execOp, e', e2', go_sem]) ?_)
      have hb := below_box w' (.cells #[.bool false, .string ba, .slice none 0 0, .bool false, .string ba, .slice none 0 0] 71)
      refine hI.put (fun k v => smallV_low k v) hb (by omega) smallD_inj (by simp [smallD]) (by simp [hz]) ?_
      refine (rd_flat (size := 3) (n := 2) (rows := encExs [exA, exA]) (L := [[.bool false, .string ba, .slice none 0 0], [.bool false, .string ba, .slice none 0 0]]) (heap_alloc_new w' _) (by simp) rfl rfl rfl (by simp [encExs, encEx]) (by simp) ?_ (by decide) : Rd _ _ _ _)
      intro p hp
      have hrow : RowRd (w'.alloc (.cells #[.bool false, .string ba, .slice none 0 0, .bool false, .string ba, .slice none 0 0] 71)) (w'.alloc (.cells #[.bool false, .string ba, .slice none 0 0, .bool false, .string ba, .slice none 0 0] 71)).heap.size (encEx exA) [.bool false, .string ba, .slice none 0 0] := by
        intro j hj hj'
        match j, hj' with
        | 0, _ => exact .leaf _
        | 1, _ => exact .leaf _
        | 2, _ => exact .none_ _
      simp only [encExs, List.zip_cons_cons, List.zip_nil_right, List.mem_cons, List.not_mem_nil, or_false] at hp
      rcases hp with rfl | rfl
      · exact hrow
      · exact hrow
    · have hr : Rd w' w'.heap.size (.sl 3 (encExs [exA, exA])) (a.tmps.getD (smallD 16) undef) := hI.done 16 (by omega) (hdep ⟨16, .data⟩ (by simp) rfl)
      obtain ⟨A, c, e, _⟩ := Rd.sl_form hr
      have e' : (a.tmps[19]?).getD undef = .slice A 2 c := by simpa [smallD, encFms, encExs] using e
      have hr' : Rd w' w'.heap.size (.sl 3 (encExs [exA, exA])) (.slice A 2 c) := by rw [← e']; simpa [smallD] using hr
      clear e hr
      refine wpOp_of ho rfl (wp_value (v := .agg #[.int .i64 4, .slice none 0 0, .slice A 2 c, .slice none 0 0]) (w' := w') (by simp [execOp, e', go_sem]) ?_)
      exact hI.put (fun k v => smallV_low k v) (Below.refl _ _) (by omega) smallD_inj (by simp [smallD]) (by simp [hz]) ⟨_, _, _, _, rfl, ⟨rfl, .none_ _, hr', .none_ _⟩⟩
    · obtain ⟨o, v1, v2, v3, e, hr⟩ := hI.done 17 (by omega) (hdep ⟨17, .data⟩ (by simp) rfl)
      have e' : (a.tmps[20]?).getD undef = .agg #[.int .i64 o, v1, v2, v3] := by simpa [smallD] using e
      clear e
      refine wpOp_of ho rfl (wp_value (v := .agg #[.bool false, .string ⟨#[110, 52]⟩, .string bco, .int .i64 o, v1, v2, v3]) (w' := w') (by simp [execOp, e', go_sem]) ?_)
      exact hI.put (fun k v => smallV_low k v) (Below.refl _ _) (by omega) smallD_inj (by simp [smallD]) (by simp [hz]) ⟨o, v1, v2, v3, rfl, hr⟩
    · obtain ⟨o0, x0, y0, z0, e0, hr0⟩ := hI.done 1 (by omega) (hdep ⟨1, .data⟩ (by simp) rfl)
      have e0' : (a.tmps[4]?).getD undef = .agg #[.bool false, .string ⟨#[110, 48]⟩, .string bax, .int .i64 o0, x0, y0, z0] := by simpa [smallD] using e0
      clear e0
      obtain ⟨o1, x1, y1, z1, e1, hr1⟩ := hI.done 6 (by omega) (hdep ⟨6, .data⟩ (by simp) rfl)
      have e1' : (a.tmps[9]?).getD undef = .agg #[.bool false, .string ⟨#[110, 49]⟩, .string bax, .int .i64 o1, x1, y1, z1] := by simpa [smallD] using e1
      clear e1
      obtain ⟨o2, x2, y2, z2, e2, hr2⟩ := hI.done 11 (by omega) (hdep ⟨11, .data⟩ (by simp) rfl)
      have e2' : (a.tmps[14]?).getD undef = .agg #[.bool false, .string ⟨#[110, 50]⟩, .string bax, .int .i64 o2, x2, y2, z2] := by simpa [smallD] using e2
      clear e2
      obtain ⟨o3, x3, y3, z3, e3, hr3⟩ := hI.done 13 (by omega) (hdep ⟨13, .data⟩ (by simp) rfl)
      have e3' : (a.tmps[16]?).getD undef = .agg #[.bool false, .string ⟨#[110, 51]⟩, .string bax, .int .i64 o3, x3, y3, z3] := by simpa [smallD] using e3
      clear e3
      obtain ⟨o4, x4, y4, z4, e4, hr4⟩ := hI.done 18 (by omega) (hdep ⟨18, .data⟩ (by simp) rfl)
      have e4' : (a.tmps[21]?).getD undef = .agg #[.bool false, .string ⟨#[110, 52]⟩, .string bco, .int .i64 o4, x4, y4, z4] := by simpa [smallD] using e4
      clear e4
      have HR0 := Lib.hid (And.intro hr0 (And.intro hr1 (And.intro hr2 (And.intro hr3 hr4))))
      clear hr0 hr1 hr2 hr3 hr4
      obtain ⟨cs, hcs⟩ : ∃ cs : Obj, cs = (.cells #[.bool false, .string ⟨#[110, 48]⟩, .string bax, .int .i64 o0, x0, y0, z0, .bool false, .string ⟨#[110, 49]⟩, .string bax, .int .i64 o1, x1, y1, z1, .bool false, .string ⟨#[110, 50]⟩, .string bax, .int .i64 o2, x2, y2, z2, .bool false, .string ⟨#[110, 51]⟩, .string bax, .int .i64 o3, x3, y3, z3, .bool false, .string ⟨#[110, 52]⟩, .string bco, .int .i64 o4, x4, y4, z4] 43) := ⟨_, rfl⟩
      refine wpOp_of ho rfl (wp_value (v := .slice (some ⟨w'.heap.size, 0, none⟩) 5 5) (w' := w'.alloc cs) (by rw [hcs]; simp [execOp, e0', e1', e2', e3', e4', go_sem]) ?_)
      have hb := below_box w' cs
      refine hI.put (fun k v => smallV_low k v) hb (by omega) smallD_inj (by simp [smallD]) (by simp [hz]) ?_
      refine (rd_flat (size := 7) (n := 5) (rows := smallL.map encEn) (L := [[.bool false, .string ⟨#[110, 48]⟩, .string bax, .int .i64 o0, x0, y0, z0], [.bool false, .string ⟨#[110, 49]⟩, .string bax, .int .i64 o1, x1, y1, z1], [.bool false, .string ⟨#[110, 50]⟩, .string bax, .int .i64 o2, x2, y2, z2], [.bool false, .string ⟨#[110, 51]⟩, .string bax, .int .i64 o3, x3, y3, z3], [.bool false, .string ⟨#[110, 52]⟩, .string bco, .int .i64 o4, x4, y4, z4]]) ((heap_alloc_new w' cs).trans (congrArg some hcs)) (by simp) rfl rfl rfl (by intro r hr; obtain ⟨x, _, rfl⟩ := List.mem_map.1 hr; exact encEn_len x) (by simp) ?_ (by decide) : Rd _ _ _ _)
      intro p hp
      obtain ⟨hr0, hr1, hr2, hr3, hr4⟩ := HR0.out
      simp only [smallL, List.map_cons, List.map_nil, List.zip_cons_cons, List.zip_nil_right, List.mem_cons, List.not_mem_nil, or_false] at hp
      rcases hp with rfl | rfl | rfl | rfl | rfl
      · exact en_row ((hr0.low hb (Nat.le_refl _)).more hb.size)
      · exact en_row ((hr1.low hb (Nat.le_refl _)).more hb.size)
      · exact en_row ((hr2.low hb (Nat.le_refl _)).more hb.size)
      · exact en_row ((hr3.low hb (Nat.le_refl _)).more hb.size)
      · exact en_row ((hr4.low hb (Nat.le_refl _)).more hb.size)
    · have hr : Rd w' w'.heap.size (.sl 7 (smallL.map encEn)) (a.tmps.getD (smallD 19) undef) := hI.done 19 (by omega) (hdep ⟨19, .data⟩ (by simp) rfl)
      refine wpOp_of ho rfl (wp_value (v := a.tmps.getD (smallD 19) undef) (w' := w') (by simp [execOp, smallD, go_sem]) ?_)
      exact hI.put (fun k v => smallV_low k v) (Below.refl _ _) (by omega) smallD_inj (by simp [smallD]) (by simp [hz]) hr
  case fin =>
    intro listed a w' hall hI
    have hv : Rd w' w'.heap.size (.sl 7 (smallL.map encEn)) (a.tmps.getD (smallD 20) undef) := hI.done 20 (by omega) (hall 20 (by simp))
    have hbl := hI.bel
    obtain ⟨⟨l⟩, ds⟩ := a
    have hsz : l.length = 23 := hI.sz
    have hdf : ds = [] := hI.df
    subst hdf
    clear hI hall
    match l, hsz with
    | [u0, u1, u2, u3, u4, u5, u6, u7, u8, u9, u10, u11, u12, u13, u14, u15, u16, u17, u18, u19, u20, u21, u22], _ =>
      have hv' : Rd w' w'.heap.size (.sl 7 (smallL.map encEn)) u0 := hv
      clear hv
      go_wp2_with fail
      go_ret
      exact ⟨_, rfl, hv', hb0.trans (hbl.mono hb0.size)⟩
  · rfl
  · decide

end Go.Proofs.Ytikgjappablbhaa
