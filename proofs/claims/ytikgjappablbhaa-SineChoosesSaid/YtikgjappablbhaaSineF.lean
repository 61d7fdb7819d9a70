/-
  Walk over the chooser's rounds.
-/
import Derived.Test.YtikgjappablbhaaSineE
import Derived.RangeFuncNested
import Derived.RangeFuncBound
import Derived.RangeFuncCalls
import Derived.RangeFuncLeaves
import Derived.OwnWalkIn
import Derived.TacticsInMore
import Derived.LoopNIn
import Derived.LoopIn
namespace Go.Proofs.Ytikgjappablbhaa
open Go.RowKit

/-- Which are chosen; which symbols are there. -/
abbrev ChS := (Nat → Bool) × (Sy → Bool)
/-- What a round chooses. -/
def more (c : Sy → Nat) (tol : Nat) (ow : List (List Sy)) (s : ChS) : List Nat := (List.range ow.length).filter fun i => !s.1 i && trig c s.2 tol (ow.getD i [])
/-- A round. -/
def rnd (c : Sy → Nat) (tol : Nat) (ow : List (List Sy)) (s : ChS) : ChS :=
  (fun i => decide (i ∈ more c tol ow s) || s.1 i, fun y => (more c tol ow s).any (fun i => hasSy (ow.getD i []) y) || s.2 y)
/-- So many rounds. -/
def rnds (c : Sy → Nat) (tol : Nat) (ow : List (List Sy)) : Nat → ChS → ChS
  | 0, s => s
  | n + 1, s => rnd c tol ow (rnds c tol ow n s)
/-- How many are chosen. -/
def many (n : Nat) (ch : Nat → Bool) : Nat := (List.range n).countP ch

theorem more_lt {c : Sy → Nat} {tol : Nat} {ow : List (List Sy)} {s : ChS} {i : Nat} (h : i ∈ more c tol ow s) : i < ow.length ∧ s.1 i = false := by
  unfold more at h
  rw [List.mem_filter, List.mem_range] at h
  refine ⟨h.1, ?_⟩
  have := h.2
  simp at this
  exact this.1
theorem rnd_fix {c : Sy → Nat} {tol : Nat} {ow : List (List Sy)} {s : ChS} (h : more c tol ow s = []) : rnd c tol ow s = s := by
  unfold rnd
  rw [h]
  simp
theorem rnds_fix {c : Sy → Nat} {tol : Nat} {ow : List (List Sy)} {s : ChS} {n : Nat} (h : more c tol ow (rnds c tol ow n s) = []) : ∀ k, rnds c tol ow (n + k) s = rnds c tol ow n s
  | 0 => rfl
  | k + 1 => by
    show rnd c tol ow (rnds c tol ow (n + k) s) = _
    rw [rnds_fix h k]
    exact rnd_fix h
theorem many_mono {n : Nat} {a b : Nat → Bool} (h : ∀ i, a i = true → b i = true) : many n a ≤ many n b := List.countP_mono_left fun i _ hi => h i hi
theorem many_le (n : Nat) (a : Nat → Bool) : many n a ≤ n := by
  have := List.countP_le_length (p := a) (l := List.range n)
  simpa [many] using this
theorem many_rnd {c : Sy → Nat} {tol : Nat} {ow : List (List Sy)} {s : ChS} (h : more c tol ow s ≠ []) : many ow.length s.1 + 1 ≤ many ow.length (rnd c tol ow s).1 := by
  obtain ⟨i, hi⟩ := List.exists_mem_of_ne_nil _ h
  obtain ⟨hlt, hf⟩ := more_lt hi
  have key : ∀ (l : List Nat) (a b : Nat → Bool), i ∈ l → (∀ j, a j = true → b j = true) → a i = false → b i = true → l.countP a + 1 ≤ l.countP b := by
    intro l a b
    induction l with
    | nil => simp
    | cons x l ih =>
      intro hm hab ha hb
      have hmono : l.countP a ≤ l.countP b := List.countP_mono_left fun j _ hj => hab j hj
      by_cases hx : x = i
      · subst hx
        rw [List.countP_cons_of_neg (by simp [ha]), List.countP_cons_of_pos hb]
        omega
      · have hm' : i ∈ l := by rcases List.mem_cons.1 hm with e | e; exact absurd e.symm hx; exact e
        have := ih hm' hab ha hb
        cases hax : a x with
        | false =>
          rw [List.countP_cons_of_neg (by simp [hax])]
          have : l.countP b ≤ (x :: l).countP b := by rw [List.countP_cons]; omega
          omega
        | true =>
          rw [List.countP_cons_of_pos hax, List.countP_cons_of_pos (hab x hax)]
          omega
  refine key _ _ _ (List.mem_range.2 hlt) (fun j hj => ?_) hf ?_
  · show (decide (j ∈ more c tol ow s) || s.1 j) = true
    rw [hj]; simp
  · show (decide (i ∈ more c tol ow s) || s.1 i) = true
    simp [hi]
theorem many_rnds {c : Sy → Nat} {tol : Nat} {ow : List (List Sy)} {s : ChS} : ∀ n, (∀ k, k < n → more c tol ow (rnds c tol ow k s) ≠ []) → n ≤ many ow.length (rnds c tol ow n s).1
  | 0, _ => Nat.zero_le _
  | n + 1, h => by
    have h1 := many_rnds n (fun k hk => h k (by omega))
    have h2 := many_rnd (h n (by omega))
    exact Nat.le_trans (by omega) h2

/-- A set of numbers, of symbols, as a map to true. -/
def setF {K : Type} (p : K → Bool) (x : K) : Option Value := if p x then some (.bool true) else none
theorem setF_get {K : Type} (p : K → Bool) (x : K) : (setF p x).getD (.bool false) = .bool (p x) := by unfold setF; cases p x <;> rfl
theorem setF_addN (p : Nat → Bool) (l : List Nat) (x : Nat) : addNF (setF p) l x = setF (fun i => decide (i ∈ l) || p i) x := by
  unfold addNF setF
  by_cases h : x ∈ l
  · simp [h]
  · simp [h]
theorem setF_addSy (p : Sy → Bool) (l : List Sy) (x : Sy) : addSyF (setF p) l x = setF (fun y => hasSy l y || p y) x := by
  unfold addSyF setF
  cases h1 : hasSy l x <;> cases h2 : p x <;> simp [h1, h2]

/-- A number as a key. -/
abbrev natV (n : Nat) : Value := .int .i64 n

/-- What a round's body does, seen from the iterator. -/
def YieldOk (l rb db d : Nat) (rec0 rec1 : Loop) : Prop :=
  ∀ (v : Value) (r : Nat) (W : World), W.heap[l]? = some (.loop rec0) → W.heap[rb]? = some (.cells #[.int .i64 r] 3 (0, 0)) → W.heap[db]? = some (.cells #[.int .i64 d] 3 (0, 0)) → r < 100000 →
    YieldAt Fence.wide 3 Try.prog l #[v] W (fun e W' => Upd W W' (fun k => k = rb ∨ k = l) ∧ W'.heap[rb]? = some (.cells #[.int .i64 (r + 1 : Nat)] 3 (0, 0)) ∧
      ((r + 1 ≠ d ∧ e = .returned (.bool true) ∧ W'.heap[l]? = some (.loop rec0)) ∨ (r + 1 = d ∧ e = .returned (.bool false) ∧ W'.heap[l]? = some (.loop rec1))))

/-- What holds between two rounds. -/
structure RdsSt (w0 w : World) (B cb gc gt gh rb db l d r : Nat) (ov : Value) (tol : Nat) (fc : Sy → Option Value) (ow : List (List Sy)) (s : ChS) (rec : Loop) : Prop where
  fov : Rd w B (.sl 1 (ow.map fun o => [.sl 3 (o.map encSy)])) ov
  fch : ChT w cb gc gt gh ov tol fc (setF s.2)
  fgh : MapF w gh natV (setF s.1)
  frb : w.heap[rb]? = some (.cells #[.int .i64 r] 3 (0, 0))
  fdb : w.heap[db]? = some (.cells #[.int .i64 d] 3 (0, 0))
  fl : w.heap[l]? = some (.loop rec)
  fup : Upd w0 w (fun k => k = gt ∨ k = gh ∨ k = rb ∨ k = l)

def RdsEnd (w0 : World) (B cb gc gt gh rb db l d : Nat) (ov : Value) (tol : Nat) (c : Sy → Nat) (fc : Sy → Option Value) (ow : List (List Sy)) (s : ChS) (rec0 rec1 : Loop) (e : Ending) (w' : World) : Prop :=
  e = .returned (.tuple #[]) ∧ ∃ r, (RdsSt w0 w' B cb gc gt gh rb db l d r ov tol fc ow (rnds c tol ow r s) rec0 ∧ more c tol ow (rnds c tol ow r s) = [] ∧ (d ≠ 0 → r < d)) ∨
    (RdsSt w0 w' B cb gc gt gh rb db l d r ov tol fc ow (rnds c tol ow r s) rec1 ∧ r = d ∧ d ≠ 0)

theorem RdsSt.low {w0 w w' : World} {B cb gc gt gh rb db l d r : Nat} {ov : Value} {tol : Nat} {fc : Sy → Option Value} {ow : List (List Sy)} {s : ChS} {rec : Loop} (h : RdsSt w0 w B cb gc gt gh rb db l d r ov tol fc ow s rec)
    (hb : Below w.heap.size w w') (hB : B ≤ w.heap.size) : RdsSt w0 w' B cb gc gt gh rb db l d r ov tol fc ow s rec :=
  ⟨h.fov.low hb hB, h.fch.low hb, h.fgh.low hb, (hb.block _ (ltOf h.frb)).trans h.frb, (hb.block _ (ltOf h.fdb)).trans h.fdb, (hb.block _ (ltOf h.fl)).trans h.fl, h.fup.trans (Upd.low hb (fun _ => False)) (by simp)⟩

theorem Rd.own_at {w : World} {B k n c : Nat} {A : Option Addr} {ow : List (List Sy)} (h : Rd w B (.sl 1 (ow.map fun o => [.sl 3 (o.map encSy)])) (.slice A n c)) (hk : k < ow.length) :
    ∃ ab off u, A = some ⟨ab, off, none⟩ ∧ ab < B ∧ w.cell? ⟨ab, off + k, none⟩ = some u ∧ Rd w B (.sl 3 (ow[k].map encSy)) u := by
  obtain ⟨ab, off, us, hA, hb, hc, hr⟩ := h.at_ (k := k) (by simpa using hk)
  have h0 := hr 0 (by simp)
  simp only [List.getElem_map, List.getElem_cons_zero] at h0
  have := hc 0 (by omega)
  exact ⟨ab, off, us 0, hA, hb, by rw [← this]; simp, h0⟩

theorem MapF.is {K : Type} [DecidableEq K] {w : World} {g : Nat} {enc : K → Value} {f : K → Option Value} (hm : MapF w g enc f) : ∃ es c, w.heap[g]? = some (.map es c) := by
  obtain ⟨es, c, kv, hg, _⟩ := hm
  exact ⟨es, c, hg⟩
theorem Rd.maps {w w' : World} {B : Nat} {t : Tr} {v : Value} {F : Nat → Prop} (h : Rd w B t v) (hu : Upd w w' F) (hB : B ≤ w.heap.size) (hF : ∀ g, F g → (∃ es c, w.heap[g]? = some (.map es c)) ∧ ∃ es c, w'.heap[g]? = some (.map es c)) : Rd w' B t v := by
  refine h.keep fun p hp => ?_
  by_cases hf : F p.block
  · obtain ⟨⟨e1, c1, h1⟩, e2, c2, h2⟩ := hF _ hf
    simp [World.cell?, h1, h2]
  · simp only [World.cell?, hu.block p.block (by omega) hf]
theorem cells_ne_map {K : Type} [DecidableEq K] {w : World} {b g : Nat} {cs : Array Value} {t : TypeId} {fr : Nat × Nat} {enc : K → Value} {f : K → Option Value} (h : w.heap[b]? = some (.cells cs t fr)) (hm : MapF w g enc f) : b ≠ g := by
  rintro rfl
  obtain ⟨es, c, kv, hg, _⟩ := hm
  rw [h] at hg
  cases hg

theorem loop_ne_map {K : Type} [DecidableEq K] {w : World} {b g : Nat} {rec : Loop} {enc : K → Value} {f : K → Option Value} (h : w.heap[b]? = some (.loop rec)) (hm : MapF w g enc f) : b ≠ g := by
  rintro rfl
  obtain ⟨es, c, kv, hg, _⟩ := hm
  rw [h] at hg
  cases hg
theorem loop_ne_cells {w : World} {b g : Nat} {rec : Loop} {cs : Array Value} {t : TypeId} {fr : Nat × Nat} (h : w.heap[b]? = some (.loop rec)) (hm : w.heap[g]? = some (.cells cs t fr)) : g ≠ b := by
  rintro rfl
  rw [h] at hm
  cases hm

/-- Behind the two calls of 'add'. -/
theorem RdsSt.stepped {w0 w w5 w' : World} {B cb gc gt gh rb db l d r : Nat} {ov : Value} {tol : Nat} {fc : Sy → Option Value} {ow : List (List Sy)} {s : ChS} {rec : Loop} {p : Nat → Bool} {q : Sy → Bool}
    (h : RdsSt w0 w B cb gc gt gh rb db l d r ov tol fc ow s rec) (h5 : Upd w w5 (fun k => k = gh)) (h3 : Upd w5 w' (fun k => k = gt)) (hb : w'.heap[cb]? = some (.cells #[ov, .map (some gc), .map (some gt), .map (some gh), .int .i64 tol] 64 (0, 0)))
    (hm : MapF w5 gh natV (setF p)) (ht : MapF w' gt symV (setF q)) (hB : B ≤ w.heap.size) (hgg : gt ≠ gh) (hgc : gc ≠ gt) (hgc2 : gc ≠ gh) :
    RdsSt w0 w' B cb gc gt gh rb db l d r ov tol fc ow (p, q) rec := by
  have hu : Upd w w' (fun k => k = gh ∨ k = gt) := (h5.more (fun i hi => .inl (.inl hi))).trans h3 (fun i hi => .inl (.inr hi))
  have hu0 : Upd w0 w' (fun k => k = gt ∨ k = gh ∨ k = rb ∨ k = l) := h.fup.trans hu (fun i hi => .inl (by rcases hi with hi | hi; exact .inr (.inl hi); exact .inl hi))
  have cell : ∀ (b : Nat) (cs : Array Value) (t : TypeId) (fr : Nat × Nat), w.heap[b]? = some (.cells cs t fr) → w'.heap[b]? = some (.cells cs t fr) := fun b cs t fr hc =>
    (hu.block b (ltOf hc) (by rintro (e | e); exact cells_ne_map hc h.fgh e; exact cells_ne_map hc h.fch.ht e)).trans hc
  exact ⟨h.fov.maps hu hB (fun g hg => by rcases hg with rfl | rfl; exact ⟨h.fgh.is, (hm.upd h3 (fun e => hgg e.symm)).is⟩; exact ⟨h.fch.ht.is, ht.is⟩), ⟨hb, h.fch.hc.upd hu (by omega), ht⟩, hm.upd h3 (fun e => hgg e.symm), cell _ _ _ _ h.frb, cell _ _ _ _ h.fdb,
    (hu.block l (ltOf h.fl) (by rintro (e | e); exact loop_ne_map h.fl h.fgh e; exact loop_ne_map h.fl h.fch.ht e)).trans h.fl, hu0⟩

/-- Behind the yield. -/
theorem RdsSt.yielded {w0 w w' : World} {B cb gc gt gh rb db l d r r' : Nat} {ov : Value} {tol : Nat} {fc : Sy → Option Value} {ow : List (List Sy)} {s : ChS} {rec rec' : Loop}
    (h : RdsSt w0 w B cb gc gt gh rb db l d r ov tol fc ow s rec) (hu : Upd w w' (fun k => k = rb ∨ k = l)) (hrb : w'.heap[rb]? = some (.cells #[.int .i64 r'] 3 (0, 0))) (hl : w'.heap[l]? = some (.loop rec'))
    (hBr : B ≤ rb) (hBl : B ≤ l) (hB : B ≤ w.heap.size) (hne : rb ≠ db) : RdsSt w0 w' B cb gc gt gh rb db l d r' ov tol fc ow s rec' := by
  have hu0 : Upd w0 w' (fun k => k = gt ∨ k = gh ∨ k = rb ∨ k = l) := h.fup.trans hu (fun i hi => .inl (.inr (.inr hi)))
  have map {K : Type} [DecidableEq K] {g : Nat} {enc : K → Value} {f : K → Option Value} (hm : MapF w g enc f) : MapF w' g enc f :=
    hm.upd hu (by rintro (e | e); exact cells_ne_map h.frb hm e.symm; exact loop_ne_map h.fl hm e.symm)
  have hcr : cb ≠ rb := by
    rintro rfl
    have := h.frb
    rw [h.fch.hb] at this
    injection this with this
    injection this with _ ht
    exact absurd ht (by decide)
  exact ⟨h.fov.low (hu.toLow hB (fun i hi => by omega)) (Nat.le_refl _), ⟨(hu.block cb (ltOf h.fch.hb) (by rintro (e | e); exact hcr e; exact loop_ne_cells h.fl h.fch.hb e)).trans h.fch.hb, map h.fch.hc, map h.fch.ht⟩, map h.fgh, hrb,
    (hu.block db (ltOf h.fdb) (by rintro (e | e); exact hne e.symm; exact loop_ne_cells h.fl h.fdb e)).trans h.fdb, hl, hu0⟩

/-- What a round has chosen of the first k. -/
def moreTo (c : Sy → Nat) (tol : Nat) (ow : List (List Sy)) (s : ChS) (k : Nat) : List Nat := (List.range k).filter fun i => !s.1 i && trig c s.2 tol (ow.getD i [])
theorem moreTo_succ (c : Sy → Nat) (tol : Nat) (ow : List (List Sy)) (s : ChS) (k : Nat) (hk : k < ow.length) :
    moreTo c tol ow s (k + 1) = if !s.1 k && trig c s.2 tol ow[k] then moreTo c tol ow s k ++ [k] else moreTo c tol ow s k := by
  unfold moreTo
  rw [List.range_succ, List.filter_append]
  have : ow.getD k [] = ow[k] := by simp [hk]
  simp only [List.filter_cons, List.filter_nil, this]
  split <;> simp_all
theorem moreTo_len (c : Sy → Nat) (tol : Nat) (ow : List (List Sy)) (s : ChS) (k : Nat) : (moreTo c tol ow s k).length ≤ k := by
  have := List.length_filter_le (fun i => !s.1 i && trig c s.2 tol (ow.getD i [])) (List.range k)
  simpa [moreTo] using this

set_option maxHeartbeats 2000000 in
theorem rounds_any (ow : List (List Sy)) (c : Sy → Nat) (tol d cb gc gt gh rb db l B : Nat) (ov : Value) (fc : Sy → Option Value) (rec0 rec1 : Loop) (s0 : ChS) (w : World)
    (hst : RdsSt w w B cb gc gt gh rb db l d 0 ov tol fc ow s0 rec0) (hB : B ≤ w.heap.size) (hBr : B ≤ rb) (hBl : B ≤ l) (hne : rb ≠ db) (hgg : gt ≠ gh) (hgc : gc ≠ gt) (hgc2 : gc ≠ gh)
    (hfc : ∀ s, (fc s).getD (.int .i64 0) = .int .i64 (c s)) (hc : ∀ s, c s ≤ 1000) (htol : tol ≤ 1000) (how : ow.length ≤ 1000) (hY : YieldOk l rb db d rec0 rec1) :
    Calls Try.prog 26 #[.pointer (some ⟨cb, 0, none⟩), .func (.yield l) #[] #[]] w (RdsEnd w B cb gc gt gh rb db l d ov tol c fc ow s0 rec0 rec1) := by
  have Hst := Lib.hid hst
  have HY := Lib.hid hY
  obtain ⟨Ao, co, hov, hco, hno, hmo⟩ := hst.fov.sl_form
  rw [List.length_map] at hov hco hno
  subst hov
  unfold maxLen at hmo
  clear hst hY
  go_enter Try.func26, Try.ntmps26
  go_wp2_with fail
  go_loopw [] (fun wr => ∃ r : Nat, RdsSt w wr B cb gc gt gh rb db l d r (.slice Ao ow.length co) tol fc ow (rnds c tol ow r s0) rec0 ∧ r ≤ many ow.length (rnds c tol ow r s0).1 ∧ (d ≠ 0 → r < d)) (fun wr => ow.length + 1 - (intOf ((wr.cell? ⟨rb, 0, none⟩).getD undef)).toNat)
  case atStart => exact ⟨0, Hst.out, Nat.zero_le _, fun h => by omega⟩
  case round =>
    obtain ⟨r, hst, hr, hrd⟩ := hrel
    have hml := many_le ow.length (rnds c tol ow r s0).1
    have hlcb := ltOf hst.fch.hb
    obtain ⟨e1, e2, e3, e4, e0⟩ := box5 hst.fch.hb
    have Hst1 := Lib.hid hst
    have Hrd := Lib.hid hrd
    clear hst hrd Hst
    go_wp2_with fail
    clear e1 e2 e3 e4 e0 hlcb
    obtain ⟨wo, rfl⟩ : ∃ wo : World, wo = wr := ⟨_, rfl⟩
    generalize hs1 : rnds c tol ow r s0 = s1 at Hst1 hr hml
    have Hs1 := Lib.hid hs1
    clear hs1
    have hz1 : B ≤ wo.heap.size := Nat.le_trans hB Hst1.out.fup.size
    go_loopw [4, 14] (fun u i w' => ∃ k : Nat, k ≤ ow.length ∧ i = .int .i64 k ∧ Own w' wo.heap.size 3 1 u ((moreTo c tol ow s1 k).map nvs) ∧ Below wo.heap.size wo w') (fun _ i _ => ow.length - (intOf i).toNat)
    case atStart => exact ⟨0, Nat.zero_le _, rfl, Own.nil _ _ _ _, Below.refl _ _⟩
    case round =>
      obtain ⟨k, hk, rfl, hown, hbel⟩ := hrel
      have hz2 := hbel.size
      have hst2 := Hst1.out.low hbel hz1
      have hlcb := ltOf hst2.fch.hb
      obtain ⟨e1, e2, e3, e4, e0⟩ := box5 hst2.fch.hb
      have hml2 := moreTo_len c tol ow s1 k
      have Hst2 := Lib.hid hst2
      have Hown := Lib.hid hown
      have Hbel := Lib.hid hbel
      clear hst2 hown hbel e1 e2 e4 e0
      by_cases hlt : k < ow.length
      · obtain ⟨ab, off, uo, rfl, hb, c0, hro⟩ := Hst2.out.fov.own_at hlt
        obtain ⟨Au, cu, rfl, _, _, _⟩ := hro.sl_form
        rw [List.length_map] at hro c0
        have hlk := MapF.lookup Hst2.out.fgh intK Try.underlying61 (zeroB _) k
        rw [setF_get] at hlk
        have hsn := moreTo_succ c tol ow s1 k hlt
        have Hro := Lib.hid hro
        have Hsn := Lib.hid hsn
        clear hro hsn
        cases hch : s1.1 k with
        | true =>
          rw [hch] at hlk Hsn
          clear hch
          go_wp2_with fail
          go_roundw
          case rel => exact ⟨k + 1, by omega, by go_num, by rw [Hsn.out]; exact Hown.out, Hbel.out⟩
          case measure => simp [intOf]; omega
        | false =>
          rw [hch] at hlk Hsn
          clear hch
          cases htg : trig c s1.2 tol ow[k] with
          | false =>
            rw [htg] at Hsn
            have Htg := Lib.hid htg
            clear htg
            go_wp2_with (go_at_call 34
                         refine (chTrig_any ow[k] c s1.2 tol cb gc gt gh _ _ fc _ B _ Hro.out Hst2.out.fch hfc (setF_get _) (by omega) hc htol).mono ?_
                         rintro e w3 ⟨rfl, hb3⟩
                         rw [Htg.out])
            go_roundw
            case rel => exact ⟨k + 1, by omega, by go_num, by rw [Hsn.out]; exact Hown.out.low hb3, Hbel.out.trans (hb3.mono hz2)⟩
            case measure => simp [intOf]; omega
          | true =>
            rw [htg] at Hsn
            have Htg := Lib.hid htg
            clear htg
            go_wp2_with (first
              | (go_at_call 34
                 refine (chTrig_any ow[k] c s1.2 tol cb gc gt gh _ _ fc _ B _ Hro.out Hst2.out.fch hfc (setF_get _) (by omega) hc htol).mono ?_
                 rintro e w3 ⟨rfl, hb3⟩
                 have hz3 := hb3.size
                 rw [Htg.out])
              | (at_builtin
                 refine wpList_push _ rfl (.tmp 31) (.tmp 33) _ rfl intT (base := wo.heap.size) (rows := (moreTo c tol ow s1 k).map nvs) rfl (by exact (Hown.out.low hb3).alloc _) (g := w3.heap.size) (cells := #[.int .i64 k]) rfl (heap_alloc_new w3 _) rfl (by simp [Value.oneCell']) (by rw [List.length_map]; omega) (by rw [List.length_map]; unfold maxLen; omega) (by simp; omega) ?_
                 intro v4 w4 hown4 hup4 hat4))
            go_roundw
            case rel =>
              refine ⟨k + 1, by omega, by go_num, by rw [Hsn.out]; simpa [nvs] using hown4, ?_⟩
              exact (Hbel.out.trans (hb3.mono hz2)).trans (((below_box w3 _).mono (by omega)).trans (hup4.toLow (by simp; omega) (fun i hi => ((Hown.out.low hb3).lt i hi).1)))
            case measure => simp [intOf]; omega
      · have hkk : k = ow.length := by omega
        have hM : moreTo c tol ow s1 k = more c tol ow s1 := by rw [hkk]; rfl
        rw [hM] at Hown hml2
        obtain ⟨M, hMd⟩ : ∃ M, more c tol ow s1 = M := ⟨_, rfl⟩
        rw [hMd] at Hown hml2
        have HMd := Lib.hid hMd
        have hMlt : ∀ i ∈ M, i < ow.length := fun i hi => (more_lt (by rw [hMd]; exact hi)).1
        have HMlt := Lib.hid hMlt
        obtain ⟨Am, cm, hvm, hcm, hmm⟩ := Hown.out.form
        rw [List.length_map] at hvm hcm
        subst hvm
        unfold maxLen at hmm
        clear hM hMd hMlt hkk
        by_cases hMe : M = []
        · subst hMe
          have hz0 : (((0 : Nat) : Int) == 0) = true := by decide
          clear e3 hlcb
          go_wp2_with fail
          refine bodyPost_ret (results_none rfl _ _ _) rfl ?_
          refine ⟨rfl, r, .inl ⟨?_, by rw [Hs1.out]; exact HMd.out, Hrd.out⟩⟩
          rw [Hs1.out]
          exact Hst2.out
        · have hz0 : ((M.length : Int) == 0) = false := by
            have := List.length_pos_iff.2 hMe
            simp; omega
          have hrM : Rd wr wr.heap.size (.sl 1 (M.map encN)) (.slice Am M.length cm) := by
            have := Hown.out.rd (by rw [List.length_map]; omega)
            have e : (M.map nvs).map (fun r => r.map Tr.leaf) = M.map encN := by simp [nvs, encN]
            rw [e] at this
            exact this
          have HrM := Lib.hid hrM
          have hMl : ∀ i, (Value.slice Am M.length cm).ownBlock = some i → i < wr.heap.size := fun i hi => (Hown.out.lt i hi).2
          have HMe := Lib.hid hMe
          have hlgh := Hst2.out.fgh.lt
          have hrM2 : Rd wr wr.heap.size (.sl 1 (M.map encN)) (.slice Am M.length cm) := hrM
          clear hrM hrM2
          go_wp2_with (first
            | (go_at_call 35
               refine (addN_any (setF s1.1) M gh _ _ _ HrM.out Hst2.out.fgh (Nat.le_refl _)).mono ?_
               rintro e w5 ⟨rfl, hm5, hu5⟩))
          have hz5 := hu5.size
          have hlt5 : gt < wr.heap.size := Hst2.out.fch.ht.lt
          have hlgo := Hst1.out.fgh.lt
          have hlto := Hst1.out.fch.ht.lt
          have hlow5 : ∀ i, wo.heap.size ≤ i → ¬ i = gh := by omega
          have ho5 : Own w5 wo.heap.size 3 1 (.slice Am M.length cm) (M.map nvs) := Hown.out.upd hu5 (fun g hg => hlow5 g (Hown.out.lt g hg).1)
          have ht5 : MapF w5 gt symV (setF s1.2) := Hst2.out.fch.ht.upd hu5 hgg
          have Hm5 := Lib.hid (hm5.congr (f' := setF fun i => decide (i ∈ M) || s1.1 i) (fun x => (setF_addN _ _ _).symm))
          have Hu5 := Lib.hid hu5
          have Ho5 := Lib.hid ho5
          have Ht5 := Lib.hid ht5
          clear hm5 hu5 ho5 ht5 hz0 e3
          have hzz : B ≤ w5.heap.size := by omega
          obtain ⟨wp, rfl⟩ : ∃ wp : World, wp = w5 := ⟨_, rfl⟩
          go_loopw [8, 47] (fun u i w' => ∃ k : Nat, k ≤ M.length ∧ i = .int .i64 k ∧ MapF w' gt symV (setF fun y => (M.take k).any (fun i => hasSy (ow.getD i []) y) || s1.2 y) ∧ Upd wp w' (fun k => k = gt)) (fun _ i _ => M.length - (intOf i).toNat)
          case atStart => exact ⟨0, Nat.zero_le _, rfl, by simpa using Ht5.out, Upd.refl _ _⟩
          case round =>
            obtain ⟨k3, hk3, rfl, ht3, hu3⟩ := hrel
            have hz3 := hu3.size
            have hb3 : wr.heap[cb]? = some (.cells #[.slice Ao ow.length co, .map (some gc), .map (some gt), .map (some gh), .int .i64 tol] 64 (0, 0)) := by
              have h5 := (Hu5.out.block cb (ltOf Hst2.out.fch.hb) (cells_ne_map Hst2.out.fch.hb Hst2.out.fgh)).trans Hst2.out.fch.hb
              exact (hu3.block cb (ltOf h5) (cells_ne_map h5 Ht5.out)).trans h5
            obtain ⟨e1, e2, e3, e4, e0⟩ := box5 hb3
            have hlcb3 := ltOf hb3
            clear e1 e3 e4
            by_cases hlt3 : k3 < M.length
            · obtain ⟨gm, hAm, hgm1, hgm2, hcell, _⟩ := Own.row_at (k := k3) (Ho5.out.upd hu3 (fun g hg e => by have := (Ho5.out.lt g hg).1; omega)) (by rw [List.length_map]; exact hlt3) (by omega)
              subst hAm
              have hc3 := hcell 0 (by omega)
              clear hcell
              simp only [List.getElem_map, nvs, List.getElem_cons_zero, Nat.mul_one, Nat.add_zero] at hc3
              have hml3 := HMlt.out M[k3] (List.getElem_mem hlt3)
              obtain ⟨mk, hmk⟩ : ∃ mk, M[k3] = mk := ⟨_, rfl⟩
              rw [hmk] at hc3 hml3
              have hfo : Rd wr B (.sl 1 (ow.map fun o => [.sl 3 (o.map encSy)])) (.slice Ao ow.length co) := (Hst2.out.fov.maps Hu5.out (by omega) (fun g hg => by rw [hg]; exact ⟨Hst2.out.fgh.is, Hm5.out.is⟩)).maps hu3 hzz (fun g hg => by rw [hg]; exact ⟨Ht5.out.is, ht3.is⟩)
              obtain ⟨ab, off, uo, rfl, hbb, c0, hro⟩ := hfo.own_at hml3
              obtain ⟨Au, cu, rfl, _, _, _⟩ := hro.sl_form
              rw [List.length_map] at hro c0
              have Hro := Lib.hid hro
              have Ht3 := Lib.hid ht3
              have Hu3 := Lib.hid hu3
              have Hmk := Lib.hid hmk
              clear hro hfo ht3 hu3 hmk hb3
              go_wp2_with fail
              go_still_tail 11, (by kernel_rfl)
              change wpList _ _ _ _ _ wr.drew
              obtain ⟨wd, hwd⟩ : ∃ wd, wd = wr.drew := ⟨_, rfl⟩
              rw [← hwd]
              have e0' : wd.cell? ⟨cb, 0, none⟩ = some (.slice (some ⟨ab, off, none⟩) ow.length co) := by rw [hwd]; exact e0
              have e2' : wd.cell? ⟨cb, 2, none⟩ = some (.map (some gt)) := by rw [hwd]; exact e2
              have c0' : wd.cell? ⟨ab, off + mk, none⟩ = some (.slice Au ow[mk].length cu) := by rw [hwd]; exact c0
              have hzd : wd.heap.size = wr.heap.size := by rw [hwd]; rfl
              have Hwd := Lib.hid hwd
              clear hwd e0 e2 c0 hc3
              go_wp2_with (go_at_call 25
                           refine (addSy_any _ ow[mk] gt _ B _ (by rw [Hwd.out]; exact Hro.out.keep fun _ _ => rfl) (by rw [Hwd.out]; exact Ht3.out) (by omega)).mono ?_
                           rintro e w6 ⟨rfl, hm6, hu6⟩
                           have hz6 := hu6.size)
              go_roundw
              case rel =>
                refine ⟨k3 + 1, by omega, by go_num, hm6.congr fun x => ?_, ?_⟩
                · rw [setF_addSy]
                  have key : ((M.take (k3 + 1)).any (fun i => hasSy (ow.getD i []) x) || s1.2 x) = (hasSy ow[mk] x || ((M.take k3).any (fun i => hasSy (ow.getD i []) x) || s1.2 x)) := by
                    rw [List.take_add_one, List.any_append, List.getElem?_eq_getElem hlt3, Hmk.out]
                    simp only [Option.toList, List.any_cons, List.any_nil, Bool.or_false, List.getD_eq_getElem?_getD, List.getElem?_eq_getElem hml3, Option.getD_some]
                    rw [← Bool.or_assoc, Bool.or_comm (List.any _ _)]
                  unfold setF
                  simp only [key]
                · rw [Hwd.out] at hu6
                  exact Hu3.out.trans ⟨hu6.os, hu6.tape, hu6.output, hu6.size, hu6.block⟩ (fun i hi => .inl hi)
              case measure => simp [intOf]; omega
            · have hkk : k3 = M.length := by omega
              subst hkk
              rw [List.take_length] at ht3
              have hst4 : RdsSt w wr B cb gc gt gh rb db l d r (.slice Ao ow.length co) tol fc ow (rnds c tol ow (r + 1) s0) rec0 := by
                have := Hst2.out.stepped Hu5.out hu3 hb3 Hm5.out ht3 (by omega) hgg hgc hgc2
                show RdsSt _ _ _ _ _ _ _ _ _ _ _ _ _ _ _ _ (rnd c tol ow (rnds c tol ow r s0)) _
                rw [Hs1.out]
                unfold rnd
                rw [HMd.out]
                exact this
              have hmr : r + 1 ≤ many ow.length (rnds c tol ow (r + 1) s0).1 := by
                have h1 : more c tol ow (rnds c tol ow r s0) ≠ [] := by rw [Hs1.out, HMd.out]; exact HMe.out
                have h2 := many_rnd h1
                rw [Hs1.out] at h2
                show r + 1 ≤ many ow.length (rnd c tol ow (rnds c tol ow r s0)).1
                rw [Hs1.out]
                omega
              have hml' := many_le ow.length (rnds c tol ow (r + 1) s0).1
              obtain ⟨fn, tmps, assign, body, hy, hR⟩ := HY.out (.slice Am M.length cm) r wr hst4.fl hst4.frb hst4.fdb (by omega)
              have Hst4 := Lib.hid hst4
              have HR := Lib.hid hR
              clear hst4 hR ht3 hu3 hb3
              go_upto_region 14 with fail
              refine (wpIn_wide (n := 4)).1 ?_
              gi_wp2
              refine HR.out.mono ?_
              rintro e w7 ⟨hu7, hrb7, ⟨hd7, rfl, hl7⟩ | ⟨hd7, rfl, hl7⟩⟩
              · have hst7 := Hst4.out.yielded hu7 hrb7 hl7 hBr hBl (by omega) hne
                have Hst7 := Lib.hid hst7
                clear hst7 hu7 hrb7 hl7
                simp only []
                go_at_K
                gi_wp2
                go_wp2_with fail
                refine ⟨⟨r + 1, Hst7.out, hmr, fun h0 => by have := Hrd.out h0; omega⟩, ?_⟩
                have h1 := Hst7.out.frb
                have h2 := Hst1.out.frb
                have e1 : w7.cell? ⟨rb, 0, none⟩ = some (.int .i64 ((r + 1 : Nat) : Int)) := by rw [cell_of_row w7 rb 0 _ _ _ h1]; rfl
                have e2 : wo.cell? ⟨rb, 0, none⟩ = some (.int .i64 (r : Int)) := by rw [cell_of_row wo rb 0 _ _ _ h2]; rfl
                rw [e1, e2]
                simp only [Option.getD_some, intOf]
                omega
              · have hst7 := Hst4.out.yielded hu7 hrb7 hl7 hBr hBl (by omega) hne
                have Hst7 := Lib.hid hst7
                clear hst7 hu7 hrb7 hl7
                simp only []
                go_at_K
                gi_wp2
                go_wp2_with fail
                refine bodyPost_ret (results_none rfl _ _ _) rfl ?_
                exact ⟨rfl, r + 1, .inr ⟨Hst7.out, hd7, by omega⟩⟩

end Go.Proofs.Ytikgjappablbhaa
