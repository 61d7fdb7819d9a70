/-
  Part 15 of the proof over the checker: walks and plain laws.
-/
import Derived.Test.YtiaoabfndnidiaaMK
import Derived.Test.YtiaoabfndnidiaaML
set_option maxRecDepth 100000
set_option maxHeartbeats 8000000
set_option linter.unusedSimpArgs false
set_option linter.unusedVariables false
namespace Go.Proofs.Ytiaoabfndnidiaa
open Go.RowKit
def shV (d f : Int) : Int := if f < 0 ∧ -1000 < f then f - d else f
mutual
def shT (d : Int) : Tm → Tm
 | .mk f xs => .mk (shV d f) (shTs d xs)
def shTs (d : Int) : List Tm → List Tm
 | [] => []
 | x :: xs => shT d x :: shTs d xs
end
def shL (d : Int) (x : Lt) : Lt := ⟨x.neg, shT d x.l, shT d x.r⟩
def shC (d : Int) (c : Cl) : Cl := c.map (shL d)
theorem shTs_map (d : Int) : ∀ xs : List Tm, shTs d xs = xs.map (shT d)
 | [] => by rw [shTs]; rfl
 | x :: xs => by rw [shTs, shTs_map d xs]; rfl
theorem shTs_len (d : Int) (xs : List Tm) : (shTs d xs).length = xs.length := by rw [shTs_map, List.length_map]
mutual
theorem shT_size (d : Int) : ∀ t : Tm, sizeT (shT d t) = sizeT t
 | .mk f xs => by rw [shT, sizeT, sizeT, shTs_size d xs]
theorem shTs_size (d : Int) : ∀ xs : List Tm, sizeTs (shTs d xs) = sizeTs xs
 | [] => by rw [shTs]
 | x :: xs => by rw [shTs, sizeTs, sizeTs, shT_size d x, shTs_size d xs]
end
mutual
theorem shT_depth (d : Int) : ∀ t : Tm, depthT (shT d t) = depthT t
 | .mk f xs => by rw [shT, depthT, depthT, shTs_depth d xs]
theorem shTs_depth (d : Int) : ∀ xs : List Tm, depthTs (shTs d xs) = depthTs xs
 | [] => by rw [shTs]
 | x :: xs => by rw [shTs, depthTs, depthTs, shT_depth d x, shTs_depth d xs]
end
mutual
theorem low_fit : ∀ (t : Tm) (s : Bool), lowB 48 t = true → eachT fitStp s t = s
 | .mk f xs, s, h => by
   rw [lowB] at h
   rw [eachT]
   by_cases hf : f < 0
   · rw [if_pos hf] at h ⊢
     simp only [Bool.and_eq_true, decide_eq_true_eq] at h
     have hx : xs = [] := List.length_eq_zero_iff.1 h.2
     subst hx
     rw [eachTs]
     unfold fitStp
     have hw : wrap64 (-1 - f) = -1 - f := by unfold wrap64; omega
     rw [hw, decide_eq_true (show ([] : List Tm).length = 0 from rfl), decide_eq_true (show -1 - f < 48 by omega)]
     simp
   rw [if_neg hf] at h ⊢
   exact low_fits xs s h
theorem low_fits : ∀ (xs : List Tm) (s : Bool), lowBs 48 xs = true → eachTs fitStp s xs = s
 | [], s, _ => by rw [eachTs]
 | x :: xs, s, h => by
   rw [lowBs, Bool.and_eq_true] at h
   rw [eachTs, low_fit x s h.1, low_fits xs s h.2]
end
theorem fits_low {t : Tm} (h : lowB 48 t = true) : fitsB t = (decide (sizeT t ≤ 300) && decide (depthT t ≤ 30)) := by
 unfold fitsB
 rw [low_fit t _ h]
def lowC (c : Cl) : Prop := ∀ x ∈ c, lowB 48 x.l = true ∧ lowB 48 x.r = true
theorem anyC {α : Type} {p q : α → Bool} : ∀ {l : List α}, (∀ x ∈ l, p x = q x) → l.any p = l.any q
 | [], _ => rfl
 | x :: l, h => by rw [List.any_cons, List.any_cons, h x (List.mem_cons_self ..), anyC fun y hy => h y (List.mem_cons_of_mem _ hy)]
theorem allC {α : Type} {p q : α → Bool} : ∀ {l : List α}, (∀ x ∈ l, p x = q x) → l.all p = l.all q
 | [], _ => rfl
 | x :: l, h => by rw [List.all_cons, List.all_cons, h x (List.mem_cons_self ..), allC fun y hy => h y (List.mem_cons_of_mem _ hy)]
theorem fair_all (c : Cl) : fairB c = (decide (c.length ≤ 16) && c.all litFits) := by
 unfold fairB
 congr 1
 have h := any_range c (fun x => !litFits x) ⟨false, .mk 0 [], .mk 0 []⟩
 rw [show ((List.range c.length).any (badAt c)) = ((List.range c.length).any fun k => !litFits (c[k]?.getD ⟨false, .mk 0 [], .mk 0 []⟩)) from ?_, h]
 · rw [List.all_eq_not_any_not]
 refine anyC fun k hk => ?_
 have hk := List.mem_range.1 hk
 unfold badAt
 rw [List.getElem?_eq_getElem hk]
 rfl
theorem fair_sh (d : Int) {c : Cl} (h1 : lowC c) (h2 : lowC (shC d c)) : fairB (shC d c) = fairB c := by
 rw [fair_all, fair_all]
 unfold shC at h2 ⊢
 rw [List.length_map, List.all_map]
 congr 1
 refine allC fun x hx => ?_
 have a := h1 x hx
 have b := h2 (shL d x) (List.mem_map.2 ⟨x, hx, rfl⟩)
 show litFits (shL d x) = litFits x
 unfold litFits
 rw [fits_low a.1, fits_low a.2, fits_low b.1, fits_low b.2]
 unfold shL
 simp only [shT_size, shT_depth]
def Vr (y : Int) : Prop := -1000 < y ∧ y < 0
structure RnN (d : Int) (n m : Nm) : Prop where
 there : ∀ x, m.there x = (n.there x).map (shV d)
 back : ∀ y, Vr y → m.back (shV d y) = n.back y
 vr : ∀ x y, n.there x = some y → Vr y
theorem shV_inj {d x y : Int} (hx : Vr x) (hy : Vr y) : shV d x = shV d y ↔ x = y := by
 unfold shV Vr at *
 rw [if_pos ⟨hx.2, hx.1⟩, if_pos ⟨hy.2, hy.1⟩]
 omega
theorem RnN.fine {d : Int} {n m : Nm} (h : RnN d n m) (f : Int) {g : Int} (hg : Vr g) : m.fine f (shV d g) = n.fine f g := by
 unfold Nm.fine
 rw [h.there f, h.back g hg]
 cases ht : n.there f with
 | none => cases n.back g <;> rfl
 | some x =>
   cases n.back g with
   | none => rfl
   | some y =>
     show (decide (shV d x = shV d g) && decide (y = f)) = (decide (x = g) && decide (y = f))
     rw [decide_eq_decide.2 (shV_inj (h.vr f x ht) hg)]
theorem RnN.bind {d : Int} {n m : Nm} (h : RnN d n m) (f : Int) {g : Int} (hg : Vr g) : RnN d (n.bind f g) (m.bind f (shV d g)) := by
 refine ⟨fun x => ?_, fun y hy => ?_, fun x y hxy => ?_⟩
 · unfold Nm.bind
   by_cases e : x = f
   · simp [e]
   simp only [if_neg e]; exact h.there x
 · unfold Nm.bind
   by_cases e : y = g
   · simp [e]
   have e' : ¬ shV d y = shV d g := fun h' => e ((shV_inj hy hg).1 h')
   simp only [if_neg e, if_neg e']
   exact h.back y hy
 unfold Nm.bind at hxy
 by_cases e : x = f
 · simp only [if_pos e] at hxy
   rw [← Option.some.inj hxy]; exact hg
 simp only [if_neg e] at hxy
 exact h.vr x y hxy
theorem shV_neg {d : Int} (hd : 0 ≤ d) (g : Int) : shV d g < 0 ↔ g < 0 := by
 unfold shV
 split <;> omega
theorem low_vr {g : Int} {ys : List Tm} (h : lowB 48 (.mk g ys) = true) (hg : g < 0) : Vr g := by
 rw [lowB, if_pos hg] at h
 simp only [Bool.and_eq_true, decide_eq_true_eq] at h
 exact ⟨by omega, hg⟩
theorem low_sub {g : Int} {ys : List Tm} (h : lowB 48 (.mk g ys) = true) : lowBs 48 ys = true := by
 rw [lowB] at h
 by_cases hg : g < 0
 · rw [if_pos hg] at h
   simp only [Bool.and_eq_true, decide_eq_true_eq] at h
   rw [List.length_eq_zero_iff.1 h.2, lowBs]
 rw [if_neg hg] at h; exact h
theorem varTs_nil (n : Nm) (ys : List Tm) : varTs n [] ys = (true, n) := by cases ys <;> simp [varTs]
theorem varTs_nil2 (n : Nm) (xs : List Tm) : varTs n xs [] = (true, n) := by cases xs <;> simp [varTs]
mutual
theorem var_sh {d : Int} (hd : 0 ≤ d) : ∀ (n m : Nm) (t u : Tm), lowB 48 u = true → RnN d n m → (varT m t (shT d u)).1 = (varT n t u).1 ∧ RnN d (varT n t u).2 (varT m t (shT d u)).2
 | n, m, .mk f xs, .mk g ys, hl, h => by
   rw [shT, varT, varT, shTs_len]
   have hs := low_sub hl
   by_cases hfg : f < 0 ∧ g < 0
   · have hg := low_vr hl hfg.2
     rw [if_pos hfg, if_pos ⟨hfg.1, (shV_neg hd g).2 hfg.2⟩, h.fine f hg]
     by_cases hb : n.fine f g = true
     · rw [if_pos hb, if_pos hb]
       by_cases hlen : xs.length = ys.length
       · rw [if_pos hlen, if_pos hlen]
         exact vars_sh hd _ _ xs ys hs (h.bind f hg)
       rw [if_neg hlen, if_neg hlen]
       exact ⟨rfl, h.bind f hg⟩
     rw [if_neg hb, if_neg hb]
     exact ⟨rfl, h⟩
   rw [if_neg hfg, if_neg (fun e => hfg ⟨e.1, (shV_neg hd g).1 e.2⟩)]
   have hiff : f = shV d g ↔ f = g := by
    by_cases hg : g < 0
    · have := (shV_neg hd g).2 hg
      constructor <;> intro e
      · exact absurd ⟨by omega, hg⟩ hfg
      exact absurd ⟨by omega, hg⟩ hfg
    have e : shV d g = g := by unfold shV; rw [if_neg (fun h => hg h.1)]
    rw [e]
   by_cases hfe : f = g
   · rw [if_pos hfe, if_pos (hiff.2 hfe)]
     by_cases hlen : xs.length = ys.length
     · rw [if_pos hlen, if_pos hlen]
       exact vars_sh hd _ _ xs ys hs h
     rw [if_neg hlen, if_neg hlen]
     exact ⟨rfl, h⟩
   rw [if_neg hfe, if_neg (fun e => hfe (hiff.1 e))]
   exact ⟨rfl, h⟩
theorem vars_sh {d : Int} (hd : 0 ≤ d) : ∀ (n m : Nm) (xs ys : List Tm), lowBs 48 ys = true → RnN d n m → (varTs m xs (shTs d ys)).1 = (varTs n xs ys).1 ∧ RnN d (varTs n xs ys).2 (varTs m xs (shTs d ys)).2
 | n, m, [], ys, _, h => by rw [varTs_nil, varTs_nil]; exact ⟨rfl, h⟩
 | n, m, x :: xs, [], _, h => by rw [shTs, varTs_nil2, varTs_nil2]; exact ⟨rfl, h⟩
 | n, m, x :: xs, y :: ys, hl, h => by
   rw [lowBs, Bool.and_eq_true] at hl
   rw [shTs, varTs, varTs]
   obtain ⟨h1, h2⟩ := var_sh hd n m x y hl.1 h
   rw [h1]
   by_cases hb : (varT n x y).1 = true
   · rw [if_pos hb, if_pos hb]
     exact vars_sh hd _ _ xs ys hl.2 h2
   rw [if_neg hb, if_neg hb]
   exact ⟨rfl, h2⟩
end
theorem varL_sh {d : Int} (hd : 0 ≤ d) {n m : Nm} (x y : Lt) (h1 : lowB 48 y.l = true) (h2 : lowB 48 y.r = true) (h : RnN d n m) : (varL m x (shL d y)).1 = (varL n x y).1 ∧ RnN d (varL n x y).2 (varL m x (shL d y)).2 := by
 have e : varL m x (shL d y) = if x.neg = y.neg then (if (varT m x.l (shT d y.l)).1 = true then varT (varT m x.l (shT d y.l)).2 x.r (shT d y.r) else (false, (varT m x.l (shT d y.l)).2)) else (false, m) := rfl
 rw [e]
 unfold varL
 by_cases hn : x.neg = y.neg
 · rw [if_pos hn, if_pos hn]
   obtain ⟨a1, a2⟩ := var_sh hd n m x.l y.l h1 h
   rw [a1]
   by_cases hb : (varT n x.l y.l).1 = true
   · rw [if_pos hb, if_pos hb]
     exact var_sh hd _ _ x.r y.r h2 a2
   rw [if_neg hb, if_neg hb]
   exact ⟨rfl, a2⟩
 rw [if_neg hn, if_neg hn]
 exact ⟨rfl, h⟩
theorem eqGo_sh {d : Int} (hd : 0 ≤ d) : ∀ (a b : Cl) (n m : Nm), lowC b → RnN d n m → (eqGo varL m a (shC d b)).1 = (eqGo varL n a b).1
 | [], b, n, m, _, _ => by cases b <;> rfl
 | x :: a, [], n, m, _, _ => rfl
 | x :: a, y :: b, n, m, hl, h => by
   have hy := hl y (List.mem_cons_self ..)
   obtain ⟨h1, h2⟩ := varL_sh hd x y hy.1 hy.2 h
   show (eqGo varL m (x :: a) (shL d y :: shC d b)).1 = _
   rw [eqGo, eqGo, h1]
   by_cases hb : (varL n x y).1 = true
   · rw [if_pos hb, if_pos hb]
     exact eqGo_sh hd a b _ _ (fun z hz => hl z (List.mem_cons_of_mem _ hz)) h2
   rw [if_neg hb, if_neg hb]
theorem variants_sh {d : Int} (hd : 0 ≤ d) (a b : Cl) (hl : lowC b) : variantsB a (shC d b) = variantsB a b := by
 unfold variantsB eqFun
 rw [show (shC d b).length = b.length by unfold shC; rw [List.length_map]]
 by_cases h : a.length = b.length
 · rw [if_pos h, if_pos h]
   exact eqGo_sh hd a b _ _ hl ⟨fun _ => rfl, fun _ _ => rfl, fun _ _ h => by cases h⟩
 rw [if_neg h, if_neg h]
def Sp.withC (s : Sp) (c : Cl) : Sp := ⟨s.rule, s.parents, s.lits, s.right, s.pos, c⟩
theorem makes_withC (inp : List Cl) (ps : List Sp) (s : Sp) (c : Cl) : makesM inp ps (s.withC c) = makesM inp ps s := rfl
theorem makes_set (inp : List Cl) (ps : List Sp) (s s' : Sp) (n : Nat) (h : ∀ j ∈ s.parents, 0 ≤ j ∧ j < n) : makesM inp (ps.set n s') s = makesM inp ps s := by
 have hp : parC (ps.set n s') s = parC ps s := by
  unfold parC
  refine List.map_congr_left fun j hj => ?_
  obtain ⟨h0, h1⟩ := h j hj
  rw [List.getElem?_set_ne (by omega)]
 unfold makesM
 rw [hp]
theorem step_names {d : Int} (hd : 0 ≤ d) (inp : List Cl) (ps : List Sp) (k : Nat) (hk : k < ps.length) (h1 : lowC ps[k].clause) (h2 : lowC (shC d ps[k].clause)) :
 stepM inp (ps.set k (ps[k].withC (shC d ps[k].clause))) k = stepM inp ps k := by
 unfold stepM
 rw [Int.toNat_natCast, List.length_set, List.getElem?_set_self hk, List.getElem?_eq_getElem hk]
 have hc : (ps[k].withC (shC d ps[k].clause)).clause = shC d ps[k].clause := rfl
 have hp : (ps[k].withC (shC d ps[k].clause)).parents = ps[k].parents := rfl
 simp only [hc, hp, fair_sh d h1 h2, makes_withC]
 cases ha : ps[k].parents.any fun j => decide (j < 0) || decide ((k : Int) ≤ j) with
 | true => simp only [ha, Bool.not_true, Bool.and_false, Bool.false_and]
 | false =>
   rw [makes_set inp ps ps[k] _ k fun j hj => by
    have := List.any_eq_false.1 ha j hj
    simp at this
    omega]
   congr 2
   cases makesM inp ps ps[k] with
   | none => rfl
   | some c => exact variants_sh hd c _ h1
def MvRes (t : Tm) (w : World) (e : Ending) (w' : World) : Prop :=
 ∃ A c, e = .returned (.agg #[.int .i64 t.fn, .slice A t.args.length c]) ∧ RdP w' (fun b => w.heap.size ≤ b) (.sl 2 (encTms t.args)) (.slice A t.args.length c) ∧ Below w.heap.size w w'
theorem mv30_any (d : Int) (hd : 0 ≤ d ∧ d ≤ 19) (D : Nat) : ∀ (f : Int) (xs : List Tm) (v2 : Value) (B : Nat) (w : World), sizeTs xs < D → sizeTs xs ≤ 2000000 → Rd w B (.sl 2 (encTms xs)) v2 → B ≤ w.heap.size →
 Calls Try.prog 15 #[.agg #[.int .i64 f, v2], .int .i64 d] w (MvRes (shT d (.mk f xs)) w) := by
 induction D with
 | zero => intro f xs v2 B w h; omega
 | succ D ih =>
 intro f xs v2 B w hD hxs hr hB
 obtain ⟨A, c, rfl, hc, hn, hm⟩ := hr.tm_form
 have H3 := Lh hr
 have Hih := Lh ih
 obtain ⟨fv, hfv⟩ : ∃ fv, shV d f = fv := ⟨_, rfl⟩
 have hsh : shT d (.mk f xs) = .mk fv (shTs d xs) := by rw [shT, hfv]
 rw [hsh]
 have hcase : (f < 0 ∧ -1000 < f ∧ fv = f - d) ∨ (¬ f < 0 ∧ fv = f) ∨ (f < 0 ∧ ¬ -1000 < f ∧ fv = f) := by
  unfold shV at hfv
  split at hfv <;> omega
 have hlz := len_le_sizeTs xs
 clear hr ih hsh hfv
 go_enter Try.func15, Try.ntmps15
 go_upto_region 2 with fail
 obtain ⟨hx1, hx2, hx3, hB3, hz3⟩ := boxes3 w (.cells #[.int .i64 f, .slice A xs.length c] 51) (.cells #[.int .i64 0, .slice none 0 0] 51) (.cells #[.int .i64 f, .slice none 0 0] 51)
 have hx1 : Box2 w.heap.size 51 (.int .i64 f) (.slice A xs.length c) _ := hx1
 have hx2 : Box2 (w.heap.size + 1) 51 (.int .i64 0) (.slice none 0 0) _ := hx2
 have hx3 : Box2 (w.heap.size + 1 + 1) 51 (.int .i64 f) (.slice none 0 0) _ := hx3
 generalize ((w.alloc (.cells #[.int .i64 f, .slice A xs.length c] 51)).alloc (.cells #[.int .i64 0, .slice none 0 0] 51)).alloc (.cells #[.int .i64 f, .slice none 0 0] 51) = w3 at hx1 hx2 hx3 hB3 hz3 ⊢
 have Hz3 := Lh hz3
 have HX1 := Lh hx1
 have HX2 := Lh hx2
 have HX3 := Lh hx3
 have HB3 := Lh hB3
 obtain ⟨x10, x11, -⟩ := hx1.cells
 obtain ⟨x30, x31, x32⟩ := hx3.cells
 clear hx1 hx2 hx3 hB3 hz3
 rcases hcase with ⟨h1, h2, hfv⟩ | ⟨h1, hfv⟩ | ⟨h1, h2, hfv⟩
 all_goals first
  | (
   have hfv2 : fv = f - d := hfv
   have hwr : IntKind.i64.wrap (f - d) = f - d := wr64 _ (by omega)
   go_upto_region 4 with fail
   have hpt := HX3.out.put0 (.int .i64 (f - d))
   have hup : Upd w3 (w3.setCell ⟨w.heap.size + 1 + 1, 0, none⟩ (.int .i64 (f - d))) (fun k => k = w.heap.size + 1 + 1) := upd_set _
   have hz4 : (w3.setCell ⟨w.heap.size + 1 + 1, 0, none⟩ (.int .i64 (f - d))).heap.size = w.heap.size + 3 := by rw [← Hz3.out]; simp [World.setCell]
   generalize w3.setCell ⟨w.heap.size + 1 + 1, 0, none⟩ (.int .i64 (f - d)) = w4 at hpt hup hz4 ⊢
   have H1 := Lh (HX1.out.upd hup (by omega))
   have H2 := Lh (HX2.out.upd hup (by omega))
   have H4 := Lh hpt
   have HB4 := Lh (HB3.out.trans (hup.toLow (B := w.heap.size) (by have := Hz3.out; omega) (fun k e => by omega)))
   have Hz4 := Lh hz4
   clear hpt hup hz4 HX1 HX2 HX3 HB3 x10 x11 x30 x31 x32 hwr h1 h2 Hz3
   rw [← hfv] at H4
   clear hfv hfv2)
  | (
   subst hfv
   go_upto_region 4 with fail
   have H1 := HX1
   have H2 := HX2
   have H4 := HX3
   have HB4 := HB3
   have Hz4 := Hz3
   obtain ⟨w4, rfl⟩ : ∃ w4, w4 = w3 := ⟨_, rfl⟩
   clear HX1 HX2 HX3 HB3 Hz3 x10 x11 x30 x31 x32 h1
   try clear h2)
 all_goals
  go_upto_region 5 with fail
  have hz4 := Hz4.out
  go_loopw [6] (fun i wr => ∃ k : Nat, k ≤ xs.length ∧ i = .int .i64 k ∧ ∃ u, Box2 (w.heap.size + 1 + 1) 51 (.int .i64 fv) u wr ∧ OwnR wr (fun _ => False) w4.heap.size 51 2 u (encTms ((shTs d xs).take k)) ∧ Upd w4 wr (fun b => b = w.heap.size + 1 + 1)) (fun i _ => xs.length - (intOf i).toNat)
  case atStart => exact ⟨0, Nat.zero_le _, rfl, _, H4.out, OwnR.nil _ _ _ _ _, Upd.refl _ _⟩
  obtain ⟨k, hk, rfl, u, hbu, hown, hur⟩ := hrel
  have hzr := hur.size
  have huo := hown.lt
  have hb1r := H1.out.upd hur (by omega)
  obtain ⟨y10, y11, -⟩ := hb1r.cells
  have hb2r := H2.out.upd hur (by omega)
  have hlowr : Below w.heap.size w wr := HB4.out.trans (hur.toLow (by omega) (fun b e => by omega))
  by_cases hlt : k < xs.length
  · obtain ⟨ab, off, f', ys, A2, c2, rfl, hxk, hab, k0, k1, hrd⟩ := (H3.out.low hlowr hB).tm_at hlt
    have hs1 := sizeTs_mem hlt
    rw [hxk] at hs1
    simp only [sizeT] at hs1
    have hsl : k < (shTs d xs).length := by rw [shTs_len]; exact hlt
    have hlk : (encTms ((shTs d xs).take k)).length = k := by rw [encTms_len, List.length_take, shTs_len]; omega
    obtain ⟨t, ht⟩ : ∃ t, shT d (.mk f' ys) = t := ⟨_, rfl⟩
    have hgt : (shTs d xs)[k] = t := by
     rw [← ht, ← hxk]
     simp only [shTs_map, List.getElem_map]
    have hsn : encTms ((shTs d xs).take (k + 1)) = encTms ((shTs d xs).take k) ++ [encTm t] := by
     rw [List.take_succ_eq_append_getElem hsl, encTms_map, encTms_map, List.map_append, hgt]
     rfl
    have hki : ¬ ((xs.length : Int) ≤ (k : Int)) := by omega
    have hcl := fun (w' : World) (hb : Below wr.heap.size wr w') => Hih.out f' ys _ _ w' (by omega) (by omega) (hrd.low hb (by have := hlowr.size; omega)) (by have := hlowr.size; have := hb.size; omega)
    rw [ht] at hcl
    have Hcl := Lh hcl
    have Hsn := Lh hsn
    have Hlk := Lh hlk
    have Hbu := Lh hbu
    have Hown := Lh hown
    have Hur := Lh hur
    have Hb1r := Lh hb1r
    have K0 := Lh k0
    have K1 := Lh k1
    have hlz2 := hlowr.size
    clear hxk hrd hgt hsn hlk hcl ht hbu hown hur hb1r hb2r hlowr k0 k1
    go_upto_region 7 with fail
    clear y10 y11
    refine rg 13 (fun L w' => Upd wr w' (fun b => b = w.heap.size + 1 + 1 ∨ u.ownBlock = some b) ∧ (L.getD 12 false = false → Box2 (w.heap.size + 1 + 1) 51 (.int .i64 fv) u w')) ?_
    intro wd hwd hbd
    refine ⟨?_, fun hS => ?_⟩
    · exact ⟨Upd.low (hwd ▸ hbd) _, fun _ => Hbu.out.low (hwd ▸ hbd)⟩
    refine tk 0 (.pointer (some ⟨w.heap.size + 1 + 1, 1, none⟩)) hS ?_ (fun hS => ?_) (hins := fun L w => by simp only [flag_ne (l := L) (i := 0) (k := 12) (by decide)])
    · intro w' L hn hw
      have n12 := hn.flag 12 (by kernel_rfl)
      simp [execOp, go_sem]
    refine tk 1 (u) hS ?_ (fun hS => ?_) (hins := fun L w => by simp only [flag_ne (l := L) (i := 1) (k := 12) (by decide)])
    · intro w' L hn hw
      have hh := (hw.2 (hn.flag 12 (by kernel_rfl))).cells
      simp [execOp, go_sem, hh.2.1]
    refine tk 2 (.pointer (some ⟨w.heap.size, 1, none⟩)) hS ?_ (fun hS => ?_) (hins := fun L w => by simp only [flag_ne (l := L) (i := 2) (k := 12) (by decide)])
    · intro w' L hn hw
      have n12 := hn.flag 12 (by kernel_rfl)
      simp [execOp, go_sem]
    refine tk 3 (.slice (some ⟨ab, off, none⟩) xs.length c) hS ?_ (fun hS => ?_) (hins := fun L w => by simp only [flag_ne (l := L) (i := 3) (k := 12) (by decide)])
    · intro w' L hn hw
      obtain ⟨q0, q1, -⟩ := (Hb1r.out.upd hw.1 (fun e => by rcases e with e | e; omega; have := (huo _ e).1; omega)).cells
      simp [execOp, go_sem, q1]
    refine ta 4 (.int .i64 (k : Nat)) hS (fun hS => ?_) (hins := fun L w => by simp only [flag_ne (l := L) (i := 4) (k := 12) (by decide)])
    refine tk 5 (.pointer (some ⟨ab, off + k * 2, none⟩)) hS ?_ (fun hS => ?_) (hins := fun L w => by simp only [flag_ne (l := L) (i := 5) (k := 12) (by decide)])
    · intro w' L hn hw
      have n12 := hn.flag 12 (by kernel_rfl)
      simp [execOp, go_sem, hlt, hki]
    refine tk 6 (.agg #[.int .i64 f', .slice A2 ys.length c2]) hS ?_ (fun hS => ?_) (hins := fun L w => by simp only [flag_ne (l := L) (i := 6) (k := 12) (by decide)])
    · intro w' L hn hw
      have hbl := hw.1.block ab (by omega) (fun e => by rcases e with e | e; omega; have := (huo _ e).1; omega)
      have q0 := (World.cell?_of_block (a := ⟨ab, off + k * 2, none⟩) hbl).trans K0.out
      have q1 := (World.cell?_of_block (a := ⟨ab, off + k * 2 + 1, none⟩) hbl).trans K1.out
      simp [execOp, go_sem, q0, q1]
    refine ta 7 (.int .i64 d) hS (fun hS => ?_) (hins := fun L w => by simp only [flag_ne (l := L) (i := 7) (k := 12) (by decide)])
    refine so 8 ?_
    have hc8 := Hcl.out wd (hwd ▸ hbd)
    refine wp_enter ?_ hc8 ?_
    · simp [execOp, resolve, invoke, go_sem]
    rintro e w6 ⟨At, nt, rfl, hrt, hb6⟩
    refine ⟨_, rfl, ?_⟩
    refine gS ?_ fun hS => ?_
    · exact ⟨hS.1.trans (Upd.low hb6 (fun _ => False)) (fun _ h => h.elim), fun _ => (hS.2 rfl).low hb6⟩
    refine so 9 ?_
    refine wp_value (v := .slice (some ⟨w6.heap.size, 0, none⟩) 1 1) (w' := w6.alloc (.cells #[.int .i64 t.fn, .slice At t.args.length nt] 51)) (by simp [execOp, go_sem]) ?_
    have hg8 := heap_alloc_new w6 (.cells #[.int .i64 t.fn, .slice At t.args.length nt] 51)
    have hb8 := below_box w6 (.cells #[.int .i64 t.fn, .slice At t.args.length nt] 51)
    generalize w6.alloc (.cells #[.int .i64 t.fn, .slice At t.args.length nt] 51) = w8 at hg8 hb8 ⊢
    refine gS ?_ fun hS => ?_
    · exact ⟨hS.1.trans (Upd.low hb8 (fun _ => False)) (fun _ h => h.elim), fun _ => (hS.2 rfl).low hb8⟩
    refine sl 10 ?_
    have hz6 := hb6.size
    have hz8 := hb8.size
    have hzd : wd.heap.size = wr.heap.size := by rw [hwd]
    have hown8 : OwnR w8 (fun _ => False) w4.heap.size 51 2 u (encTms ((shTs d xs).take k)) := ((Hown.out.low (hwd ▸ hbd : Below wr.heap.size wr wd)).low hb6).low hb8
    refine wpList_pushR w8 rfl (.tmp 31) (.tmp 39) _ rfl termT (M := fun _ => False) (base := w4.heap.size) (v := u) (trs := encTms ((shTs d xs).take k)) (by simp [go_sem]) hown8 (g := w6.heap.size) (by simp [go_sem]) hg8 rfl (by intro y hy; simp at hy; rcases hy with rfl | rfl <;> rfl) (by rw [Hlk.out]; omega) (by rw [Hlk.out]; unfold maxLen; omega) (by omega) (encTm t) (encTm_len t) ?_ ?_
    · intro j h h'
      have hj2 : j < 2 := h'
      rcases t with ⟨tf, ta⟩
      rcases (by omega : j = 0 ∨ j = 1) with rfl | rfl
      · exact .leaf _
      exact (hrt.low hb8).more fun b hb _ => ⟨.inr (by have : wd.heap.size ≤ b := hb; omega), fun e => by have := (huo _ e).2; have : wd.heap.size ≤ b := hb; omega⟩
    intro v' w9 hown' hup' hat'
    obtain ⟨Av, cv, hv', -, -⟩ := hown'.form
    have hbu9 : Box2 (w.heap.size + 1 + 1) 51 (.int .i64 fv) u w9 := ((hS.2 rfl)).upd hup' (fun e => by have := (huo _ e).1; omega)
    refine gL ?_ fun hS => ?_
    · exact ⟨hS.1.trans hup' (fun _ h => .inl (.inr h)), fun _ => hbu9⟩
    refine tk 11 (.pointer (some ⟨w.heap.size + 1 + 1, 1, none⟩)) hS ?_ (fun hS => ?_) (hins := fun L w => by simp only [flag_ne (l := L) (i := 11) (k := 12) (by decide)])
    · intro w' L hn hw
      have n12 := hn.flag 12 (by kernel_rfl)
      simp [execOp, go_sem]
    refine so 12 ?_
    obtain ⟨q0, q1, q2⟩ := hbu9.cells
    have hpt := hbu9.put1 v'
    rw [hv'] at hpt ⊢
    refine wp_skip (w' := w9.setCell ⟨w.heap.size + 1 + 1, 1, none⟩ (.slice Av (encTms ((shTs d xs).take k) ++ [encTm t]).length cv)) (by simp [execOp, go_sem, q1, q2]) ?_
    have hu10 : Upd w9 (w9.setCell ⟨w.heap.size + 1 + 1, 1, none⟩ (.slice Av (encTms ((shTs d xs).take k) ++ [encTm t]).length cv)) (fun b => b = w.heap.size + 1 + 1) := upd_set _
    rw [← hv'] at hpt hu10 ⊢
    generalize w9.setCell ⟨w.heap.size + 1 + 1, 1, none⟩ v' = w10 at hpt hu10 ⊢
    refine gS ?_ fun hS => ?_
    · exact ⟨hS.1.trans hu10 (fun _ h => .inl (.inl h)), fun h => by cases h⟩
    refine dn ?_
    have hown10 := hown'.upd hu10 (fun b hb _ e => by
     rcases hb with hb | hb
     · exact hb
     omega)
    have hu2 : Upd w4 w10 (fun b => b = w.heap.size + 1 + 1) := Hur.out.trans hS.1 (fun i e => by
     rcases e with e | e
     · exact .inl e
     exact .inr (huo i e).1)
    rw [← Hsn.out] at hown10
    have Hown10 := Lh hown10
    have Hu2 := Lh hu2
    have Hpt := Lh hpt
    clear hown10 hu2 hb6 hrt hpt hu10 hown' hup' hat' hv' hbu9 hg8 hb8 hS q0 q1 q2 hwd hbd
    go_wp2_with fail
    go_roundw
    case rel => exact ⟨k + 1, by omega, by go_num, v', Hpt.out, Hown10.out, Hu2.out⟩
    case measure => simp [intOf]; omega
  obtain rfl : k = xs.length := by omega
  have htk : (shTs d xs).take xs.length = shTs d xs := List.take_of_length_le (by rw [shTs_len]; omega)
  rw [htk] at hown
  obtain ⟨Au, cu, hu, -, -⟩ := hown.form
  rw [encTms_len] at hu
  have hread := (hown.rd (by rw [encTms_len, shTs_len]; omega))
  obtain ⟨c0, c1, -⟩ := hbu.cells
  obtain ⟨m0, m1, m2⟩ := hb2r.cells
  subst hu
  have hset := hb2r.set (.int .i64 fv) (.slice Au (shTs d xs).length cu)
  have hr9 := hread.upd hset.2 (fun b hb _ e => by rcases hb with hb | hb; exact hb; omega)
  have hb9 : Below w.heap.size w ((wr.setCell ⟨w.heap.size + 1, 0, none⟩ (.int .i64 fv)).setCell ⟨w.heap.size + 1, 1, none⟩ (.slice Au (shTs d xs).length cu)) := hlowr.trans (hset.2.toLow (by have := hlowr.size; omega) (fun b e => by omega))
  have Hset := Lh hset.1
  have Hr9 := Lh hr9
  have Hb9 := Lh hb9
  clear hset hr9 hread hown hbu hb2r hur htk hb9 hb1r hlowr
  go_wp2_with fail
  obtain ⟨j0, j1, -⟩ := Hset.out.cells
  refine bodyPost_ret (v := .agg #[.int .i64 fv, .slice Au (shTs d xs).length cu]) (by simp [results, Try.results15, go_sem, j0, j1]) rfl ⟨Au, cu, rfl, Hr9.out.more (fun b hb _ => by rcases hb with hb | hb; exact hb.elim; omega), Hb9.out⟩
def small2B (most : Int) (t : Tm) : Bool := decide (sizeT t ≤ 300) && decide (depthT t ≤ 30) && lowB most t
theorem small2_any (f : Int) (xs : List Tm) (v2 : Value) (most : Int) (B : Nat) (w : World) (hz : sizeTs xs ≤ 2000000) (hm0 : 0 ≤ most) (hm1 : most ≤ 1000000) (hr : Rd w B (.sl 2 (encTms xs)) v2) (hB : B ≤ w.heap.size) :
 Calls Try.prog 41 #[.agg #[.int .i64 f, v2], .int .i64 most] w (BoolRes (small2B most (.mk f xs)) w) := by
 obtain ⟨A, c, rfl, hc, hn, hm⟩ := hr.tm_form
 have H3 := Lh hr
 have hs : small2B most (.mk f xs) = (decide (((sizeTs xs + 1 : Nat) : Int) ≤ 300) && decide (((depthTs xs + 1 : Nat) : Int) ≤ 30) && lowB most (.mk f xs)) := by
  unfold small2B
  rw [sizeT, depthT]
  congr 2 <;> exact decide_eq_decide.2 (by omega)
 have hdp := depthTs_le xs
 rw [hs]
 clear hr hs
 by_cases h1 : ((sizeTs xs + 1 : Nat) : Int) ≤ 300
 · rw [decide_eq_true h1, Bool.true_and]
   by_cases h2 : ((depthTs xs + 1 : Nat) : Int) ≤ 30
   · rw [decide_eq_true h2, Bool.true_and]
     have h1' : (sizeTs xs : Int) + 1 ≤ 300 := by omega
     have h2' : (depthTs xs : Int) + 1 ≤ 30 := by omega
     go_enter Try.func41, Try.ntmps41
     go_upto_region 1 with fail
     have hx1 : Box2 w.heap.size 51 (.int .i64 f) (.slice A xs.length c) (w.alloc (.cells #[.int .i64 f, .slice A xs.length c] 51)) := heap_alloc_new w _
     have hb1 := below_box w (.cells #[.int .i64 f, .slice A xs.length c] 51)
     generalize w.alloc (.cells #[.int .i64 f, .slice A xs.length c] 51) = w1 at hx1 hb1 ⊢
     have hz1 := hb1.size
     have HX1 := Lh hx1
     have HB1 := Lh hb1
     obtain ⟨x0, x1, -⟩ := hx1.cells
     clear hx1 hb1
     go_wp2_with (
      first
      | (
       skip
       go_at_call 18
       refine (size2_any (sizeTs xs + 1) f xs _ B w1 (by omega) (by omega) (H3.out.low HB1.out hB) (by omega)).mono ?_
       rintro e w2 ⟨rfl, hb2⟩
       obtain ⟨x0, x1, -⟩ := (HX1.out.low hb2).cells
       have Hb2 := Lh hb2
       clear hb2
        )
      | (
       skip
       go_at_call 56
       refine (depth2_any (sizeTs xs + 1) f xs _ B w2 (by omega) (by omega) (H3.out.low (HB1.out.trans (Hb2.out.mono hz1)) hB) (by have := Hb2.out.size; omega)).mono ?_
       rintro e w3 ⟨rfl, hb3⟩
       obtain ⟨x0, x1, -⟩ := ((HX1.out.low Hb2.out).low hb3).cells
       have Hb3 := Lh hb3
       clear hb3
        )
      | (
       go_at_call 57
       refine (low_any (sizeTs xs + 1) f xs _ B w3 most (by omega) hm0 hm1 (H3.out.low (HB1.out.trans ((Hb2.out.trans (Hb3.out.mono Hb2.out.size)).mono hz1)) hB) (by have := Hb2.out.size; have := Hb3.out.size; omega)).mono ?_
       rintro e w4 ⟨rfl, hb4⟩
       have Hb4 := Lh hb4
       clear hb4))
     go_ret
     have := Hb2.out.size
     exact ⟨rfl, HB1.out.trans ((Hb2.out.trans ((Hb3.out.trans (Hb4.out.mono Hb3.out.size)).mono (by omega))).mono hz1)⟩
   rw [decide_eq_false h2, Bool.false_and]
   have h1' : (sizeTs xs : Int) + 1 ≤ 300 := by omega
   have h2' : ¬ ((depthTs xs : Int) + 1 ≤ 30) := by omega
   go_enter Try.func41, Try.ntmps41
   go_upto_region 1 with fail
   have hx1 : Box2 w.heap.size 51 (.int .i64 f) (.slice A xs.length c) (w.alloc (.cells #[.int .i64 f, .slice A xs.length c] 51)) := heap_alloc_new w _
   have hb1 := below_box w (.cells #[.int .i64 f, .slice A xs.length c] 51)
   generalize w.alloc (.cells #[.int .i64 f, .slice A xs.length c] 51) = w1 at hx1 hb1 ⊢
   have hz1 := hb1.size
   have HX1 := Lh hx1
   have HB1 := Lh hb1
   obtain ⟨x0, x1, -⟩ := hx1.cells
   clear hx1 hb1
   go_wp2_with (
    first
    | (
     skip
     go_at_call 18
     refine (size2_any (sizeTs xs + 1) f xs _ B w1 (by omega) (by omega) (H3.out.low HB1.out hB) (by omega)).mono ?_
     rintro e w2 ⟨rfl, hb2⟩
     obtain ⟨x0, x1, -⟩ := (HX1.out.low hb2).cells
     have Hb2 := Lh hb2
     clear hb2
      )
    | (
     skip
     go_at_call 56
     refine (depth2_any (sizeTs xs + 1) f xs _ B w2 (by omega) (by omega) (H3.out.low (HB1.out.trans (Hb2.out.mono hz1)) hB) (by have := Hb2.out.size; omega)).mono ?_
     rintro e w3 ⟨rfl, hb3⟩
     obtain ⟨x0, x1, -⟩ := ((HX1.out.low Hb2.out).low hb3).cells
     have Hb3 := Lh hb3
     clear hb3
      ))
   go_ret
   exact ⟨rfl, HB1.out.trans ((Hb2.out.trans (Hb3.out.mono Hb2.out.size)).mono hz1)⟩
 rw [decide_eq_false h1, Bool.false_and, Bool.false_and]
 have h1' : ¬ ((sizeTs xs : Int) + 1 ≤ 300) := by omega
 go_enter Try.func41, Try.ntmps41
 go_upto_region 1 with fail
 have hx1 : Box2 w.heap.size 51 (.int .i64 f) (.slice A xs.length c) (w.alloc (.cells #[.int .i64 f, .slice A xs.length c] 51)) := heap_alloc_new w _
 have hb1 := below_box w (.cells #[.int .i64 f, .slice A xs.length c] 51)
 generalize w.alloc (.cells #[.int .i64 f, .slice A xs.length c] 51) = w1 at hx1 hb1 ⊢
 have hz1 := hb1.size
 have HX1 := Lh hx1
 have HB1 := Lh hb1
 obtain ⟨x0, x1, -⟩ := hx1.cells
 clear hx1 hb1
 go_wp2_with (
  skip
  go_at_call 18
  refine (size2_any (sizeTs xs + 1) f xs _ B w1 (by omega) (by omega) (H3.out.low HB1.out hB) (by omega)).mono ?_
  rintro e w2 ⟨rfl, hb2⟩
  obtain ⟨x0, x1, -⟩ := (HX1.out.low hb2).cells
  have Hb2 := Lh hb2
  clear hb2
             )
 go_ret
 exact ⟨rfl, HB1.out.trans (Hb2.out.mono hz1)⟩
def smallL (most : Int) (x : Lt) : Bool := small2B most x.l && small2B most x.r
theorem small11_any (c : Cl) (v : Value) (most : Int) (B : Nat) (w : World) (hz : sizeC c ≤ 2000000) (hm0 : 0 ≤ most) (hm1 : most ≤ 1000000) (hr : Rd w B (encCl c) v) (hB : B ≤ w.heap.size) :
 Calls Try.prog 30 #[v, .int .i64 most] w (BoolRes (decide (c.length ≤ 16) && c.all (smallL most)) w) := by
 obtain ⟨A, cp, rfl, hc, hn, hm⟩ := Rd.cl_form hr
 have H3 := Lh hr
 clear hr
 by_cases h16 : c.length ≤ 16
 · have h16' : ¬ ((16 : Int) < (c.length : Int)) := by omega
   rw [decide_eq_true h16, Bool.true_and]
   obtain ⟨r, hra⟩ : ∃ r, c.all (smallL most) = r := ⟨_, rfl⟩
   rw [hra]
   have Hra := Lh hra
   clear hra
   go_enter Try.func30, Try.ntmps30
   go_wp2_with fail
   go_loopw [5] (fun i wr => ∃ k : Nat, k ≤ c.length ∧ i = .int .i64 k ∧ (∀ j (h : j < c.length), j < k → smallL most c[j] = true) ∧ Below w.heap.size w wr) (fun i _ => c.length - (intOf i).toNat)
   case atStart => exact ⟨0, Nat.zero_le _, rfl, fun j _ hj => by omega, Below.refl _ _⟩
   obtain ⟨k, hk, rfl, hall, hbel⟩ := hrel
   have Hall := Lh hall
   have Hbel := Lh hbel
   have hzr := hbel.size
   clear hbel hall
   by_cases hlt : k < c.length
   · have hmem := sizeC_mem hlt
     obtain ⟨ab, off, n0, f1, ys1, A1, c1, f2, ys2, A2, c2, rfl, hxk, hab, k0, k1, k2, k3, k4, hr1, hr2⟩ := (H3.out.low Hbel.out hB).lt_at hlt
     have hq : smallL most c[k] = (small2B most (.mk f1 ys1) && small2B most (.mk f2 ys2)) := by rw [hxk]; rfl
     rw [hxk] at hmem
     simp only [sizeL, sizeT] at hmem
     obtain ⟨b1, hb1⟩ : ∃ b, small2B most (.mk f1 ys1) = b := ⟨_, rfl⟩
     obtain ⟨b2, hb2⟩ : ∃ b, small2B most (.mk f2 ys2) = b := ⟨_, rfl⟩
     have hc1 := small2_any f1 ys1 _ most B wr (by omega) hm0 hm1 hr1 (by omega)
     have hc2 := fun (w' : World) (hb : Below wr.heap.size wr w') => small2_any f2 ys2 _ most B w' (by omega) hm0 hm1 (hr2.low hb (by omega)) (by have := hb.size; omega)
     rw [hb1] at hc1 hq
     rw [hb2] at hc2 hq
     have Hc1 := Lh hc1
     have Hc2 := Lh hc2
     have Hq := Lh hq
     have K3 := Lh k3
     have K4 := Lh k4
     clear hxk hr1 hr2 hc1 hc2 hq hb1 hb2 k0 k3 k4
     cases b1 with
     | false =>
       go_wp2_with (
        go_at_call 41
        refine Hc1.out.mono ?_
        rintro e w1 ⟨rfl, hb1⟩)
       go_ret
       have ha : c.all (smallL most) = false := List.all_eq_false.2 ⟨_, List.getElem_mem hlt, by rw [Hq.out]; simp⟩
       rw [← Hra.out, ha]
       exact ⟨rfl, Hbel.out.trans (hb1.mono hzr)⟩
     | true =>
       cases b2 with
       | false =>
         go_wp2_with (
          first
          | (
           go_at_call 41
           refine (Hc2.out _ Hb1.out).mono ?_
           rintro e w2 ⟨rfl, hb2⟩)
          | (
           go_at_call 41
           refine Hc1.out.mono ?_
           rintro e w1 ⟨rfl, hb1⟩
           have k3 := (hb1.cell (p := ⟨ab, off + k * 5 + 3, none⟩) (show ab < wr.heap.size by omega)).trans K3.out
           have k4 := (hb1.cell (p := ⟨ab, off + k * 5 + 4, none⟩) (show ab < wr.heap.size by omega)).trans K4.out
           have Hb1 := Lh hb1
           clear hb1))
         go_ret
         have ha : c.all (smallL most) = false := List.all_eq_false.2 ⟨_, List.getElem_mem hlt, by rw [Hq.out]; simp⟩
         rw [← Hra.out, ha]
         exact ⟨rfl, Hbel.out.trans ((Hb1.out.trans (hb2.mono Hb1.out.size)).mono hzr)⟩
       | true =>
         go_wp2_with (
          first
          | (
           go_at_call 41
           refine (Hc2.out _ Hb1.out).mono ?_
           rintro e w2 ⟨rfl, hb2⟩)
          | (
           go_at_call 41
           refine Hc1.out.mono ?_
           rintro e w1 ⟨rfl, hb1⟩
           have k3 := (hb1.cell (p := ⟨ab, off + k * 5 + 3, none⟩) (show ab < wr.heap.size by omega)).trans K3.out
           have k4 := (hb1.cell (p := ⟨ab, off + k * 5 + 4, none⟩) (show ab < wr.heap.size by omega)).trans K4.out
           have Hb1 := Lh hb1
           clear hb1))
         go_roundw
         case rel =>
          refine ⟨k + 1, by omega, by go_num, fun j hj hjk => ?_, Hbel.out.trans ((Hb1.out.trans (hb2.mono Hb1.out.size)).mono hzr)⟩
          by_cases e : j = k
          · subst e; exact Hq.out
          exact Hall.out j hj (by omega)
         case measure => simp [intOf]; omega
   go_wp2_with fail
   go_ret
   have ha : c.all (smallL most) = true := List.all_eq_true.2 fun x hx => by
    obtain ⟨j, hj, rfl⟩ := List.mem_iff_getElem.1 hx
    exact Hall.out j hj (by omega)
   rw [← Hra.out, ha]
   exact ⟨rfl, Hbel.out⟩
 have h16' : (16 : Int) < (c.length : Int) := by omega
 rw [decide_eq_false h16, Bool.false_and]
 go_enter Try.func30, Try.ntmps30
 go_wp2_with fail
 go_ret
 exact ⟨rfl, Below.refl _ _⟩
def LowRes (c : Cl) (w : World) (e : Ending) (w' : World) : Prop := ∃ b : Bool, e = .returned (.bool b) ∧ Below w.heap.size w w' ∧ (b = true → lowC c)
theorem fits30_any (c : Cl) (v : Value) (B : Nat) (w : World) (hz : sizeC c ≤ 2000000) (hr : Rd w B (encCl c) v) (hB : B ≤ w.heap.size) :
 Calls Try.prog 16 #[v] w (LowRes c w) := by
 obtain ⟨A, cp, rfl, -, -, -⟩ := Rd.cl_form hr
 have hs := small11_any c _ 48 B w hz (by omega) (by omega) hr hB
 have Hs := Lh hs
 clear hs hr
 go_enter Try.func16, Try.ntmps16
 go_wp2_with (
  go_at_call 30
  refine Hs.out.mono ?_
  rintro e w1 ⟨rfl, hb1⟩)
 go_ret
 refine ⟨_, rfl, hb1, fun h x hx => ?_⟩
 rw [Bool.and_eq_true, List.all_eq_true] at h
 have := h.2 x hx
 unfold smallL small2B at this
 simp only [Bool.and_eq_true] at this
 exact ⟨this.1.2, this.2.2⟩
theorem stpT : SliceTy Try.prog 29 45 6 128 := sliceTy Try.underlying29 (by kernel_rfl : (Try.prog.info? 45).map (fun i => (i.zero, i.size, i.bytes)) = some (some (.agg #[.int .i64 0, .slice none 0 0, .slice none 0 0, .slice none 0 0, .slice none 0 0, .slice none 0 0]), 6, 128)) rfl (by decide)
theorem leaf_sps {l : List Sp} : ∀ r ∈ (l.map encSp), ∀ t ∈ r, ∀ y, t = Tr.leaf y → y.oneCell' = true := by
 intro r hr t ht y hy
 obtain ⟨s, _, rfl⟩ := List.mem_map.1 hr
 subst hy
 simp [encSp, encIs, encBs, encCl] at ht
 rw [ht]; rfl
theorem rem_twenty (b : Int) : ∃ d, (wrap64 (b.tmod 20 + 20)).tmod 20 = d ∧ 0 ≤ d ∧ d ≤ 19 := by
 have h1 := Int.tmod_lt_of_pos b (show (0 : Int) < 20 by omega)
 have h2 : -20 < b.tmod 20 := by
  have := Int.lt_tmod_of_pos b (b := 20) (by omega)
  omega
 have hw : wrap64 (b.tmod 20 + 20) = b.tmod 20 + 20 := by unfold wrap64; omega
 rw [hw]
 refine ⟨_, rfl, ?_, ?_⟩
 · exact Int.tmod_nonneg _ (by omega)
 have := Int.tmod_lt_of_pos (b.tmod 20 + 20) (show (0 : Int) < 20 by omega)
 omega
mutual
theorem rng_sh {d : Int} (hd : 0 ≤ d ∧ d ≤ 19) : ∀ t : Tm, rngT t = true → rngT (shT d t) = true
 | .mk f xs, h => by
   rw [rngT, Bool.and_eq_true, decide_eq_true_eq] at h
   rw [shT, rngT, rng_shs hd xs h.2, Bool.and_true, decide_eq_true_eq]
   unfold shV
   split <;> omega
theorem rng_shs {d : Int} (hd : 0 ≤ d ∧ d ≤ 19) : ∀ xs : List Tm, rngTs xs = true → rngTs (shTs d xs) = true
 | [], _ => by rw [shTs, rngTs]
 | x :: xs, h => by
   rw [rngTs, Bool.and_eq_true] at h
   rw [shTs, rngTs, rng_sh hd x h.1, rng_shs hd xs h.2]; rfl
end
theorem sizeC_sh (d : Int) (c : Cl) : sizeC (shC d c) = sizeC c := by
 unfold sizeC shC
 rw [List.map_map]
 congr 1
 refine List.map_congr_left fun x _ => ?_
 show sizeT (shT d x.l) + sizeT (shT d x.r) = sizeL x
 rw [shT_size, shT_size]; rfl
theorem ok_names {d : Int} (hd : 0 ≤ d ∧ d ≤ 19) {ps : List Sp} (h : StepOk ps) (k : Nat) (hk : k < ps.length) : StepOk (ps.set k (ps[k].withC (shC d ps[k].clause))) := by
 have hm : ∀ q ∈ ps.set k (ps[k].withC (shC d ps[k].clause)), q ∈ ps ∨ q = ps[k].withC (shC d ps[k].clause) := fun q hq => List.mem_or_eq_of_mem_set hq
 have hkm := List.getElem_mem hk
 refine ⟨fun q hq => ?_, fun q hq => ?_, fun q hq => ?_⟩
 · rcases hm q hq with hq | rfl
   · exact h.rng q hq
   intro x hx
   obtain ⟨y, hy, rfl⟩ := List.mem_map.1 (show x ∈ (ps[k].clause).map (shL d) from hx)
   have := h.rng _ hkm y hy
   unfold rngL at this ⊢
   rw [Bool.and_eq_true] at this
   show (rngT (shT d y.l) && rngT (shT d y.r)) = true
   rw [rng_sh hd _ this.1, rng_sh hd _ this.2]; rfl
 · rcases hm q hq with hq | rfl
   · exact h.sz q hq
   show sizeC (shC d ps[k].clause) ≤ _
   rw [sizeC_sh]; exact h.sz _ hkm
 rcases hm q hq with hq | rfl
 · exact h.par q hq
 show ps[k].parents.length ≤ _
 exact h.par _ hkm
theorem names_any (inp : List Cl) (ps : List Sp) (n by_ : Int) (vi vl : Value) (B : Nat) (w : World) (hi : Rd w B (encCls inp) vi) (hp : Rd w B (encSps ps) vl) (hB : B ≤ w.heap.size)
 (hok : StepOk ps) (hzi : ∀ c ∈ inp, sizeC c ≤ 2000000) (hzp : ∀ s ∈ ps, sizeC s.clause ≤ 2000000) (hlp : ps.length ≤ 2000000) :
 Calls Try.prog 5 #[vi, vl, .int .i64 n, .int .i64 by_] w (BoolRes true w) := by
 obtain ⟨Ai, ci, rfl, hi1, hi2, hi3⟩ := Rd.row_form (show Rd w B (.sl 1 (inp.map fun c => [encCl c])) vi from hi)
 obtain ⟨Ap, cp, rfl, hp1, hp2, hp3⟩ := Rd.row_form (show Rd w B (.sl 6 (ps.map encSp)) vl from hp)
 have Hi := Lh hi
 have Hp := Lh hp
 have Hok := Lh hok
 have Hzi := Lh hzi
 have Hzp := Lh hzp
 clear hi hp hok hzi hzp
 go_enter Try.func5, Try.ntmps5
 go_wp2_with fail
 refine (great_any inp _ B w Hi.out Hzi.out hB).mono ?_
 rintro e w1 ⟨b1, rfl, hb1⟩
 have Hb1 := Lh hb1
 clear hb1
 cases b1 with
 | true =>
   go_wp2_with (
    go_at_call 11
    refine (wakes_any _).mono ?_
    rintro e w4 ⟨rfl, hb4⟩)
   go_ret
   exact ⟨rfl, Hb1.out.trans (hb4.mono Hb1.out.size)⟩
 | false =>
 go_wp2_with fail
 refine (great29_any ps _ B w1 (Hp.out.low Hb1.out hB) Hzp.out (by have := Hb1.out.size; omega)).mono ?_
 rintro e w3 ⟨b3, rfl, hb3⟩
 have Hb3 := Lh (Hb1.out.trans (hb3.mono Hb1.out.size))
 clear hb3 Hb1
 cases b3 with
 | true =>
   go_wp2_with (
    go_at_call 11
    refine (wakes_any _).mono ?_
    rintro e w4 ⟨rfl, hb4⟩)
   go_ret
   exact ⟨rfl, Hb3.out.trans (hb4.mono Hb3.out.size)⟩
 | false =>
 by_cases hn0 : n < 0
 · go_wp2_with (
  go_at_call 11
  refine (wakes_any _).mono ?_
  rintro e w4 ⟨rfl, hb4⟩)
   go_ret
   exact ⟨rfl, Hb3.out.trans (hb4.mono Hb3.out.size)⟩
 obtain ⟨k, rfl⟩ : ∃ k : Nat, n = (k : Int) := ⟨n.toNat, by omega⟩
 by_cases hnl : (ps.length : Int) ≤ (k : Int)
 · go_wp2_with (
  go_at_call 11
  refine (wakes_any _).mono ?_
  rintro e w4 ⟨rfl, hb4⟩)
   go_ret
   exact ⟨rfl, Hb3.out.trans (hb4.mono Hb3.out.size)⟩
 have hk : k < ps.length := by omega
 have hb3z := Hb3.out.size
 obtain ⟨pb, po, u1, u2, u3, u4, u5, rfl, hpb, p0, p1, p2, p3, p4, p5, hsn⟩ := (Hp.out.low Hb3.out hB).sp_at hk
 obtain ⟨A1, c1, A2, c2, A3, c3, A4, c4, A5, c5, rfl, rfl, rfl, rfl, rfl, -⟩ := hsn.forms
 have hcl := hsn.clause
 have hzc := Hzp.out ps[k] (List.getElem_mem hk)
 obtain ⟨d, hde, hd⟩ := rem_twenty by_
 have hnm := step_names hd.1 inp ps k hk
 have hokn := ok_names hd Hok.out k hk
 obtain ⟨s', hs'⟩ : ∃ s', ps[k].withC (shC d ps[k].clause) = s' := ⟨_, rfl⟩
 have henc : encSp s' = (encSp ps[k]).set 5 (encCl (shC d ps[k].clause)) := by rw [← hs']; rfl
 rw [hs'] at hnm hokn
 obtain ⟨c, hc⟩ : ∃ c, ps[k].clause = c := ⟨_, rfl⟩
 rw [hc] at hcl hzc henc p5 hnm
 have Hcl := Lh hcl
 have P5 := Lh p5
 have Hnm := Lh hnm
 have Hokn := Lh hokn
 have Henc := Lh henc
 have hlc := len_le_sizeC c
 clear p0 p1 p2 p3 p4 p5 hsn hcl hnm hokn henc hs' hc
 go_upto_region 5 with fail
 try rw [hde]
 clear hde
 go_upto_region 8 with (at_builtin
                        go_loud (refine wpList_appendR _ rfl (.tmp 34) (.tmp 35) _ rfl stpT (M := fun b => b < B) (base := w3.heap.size) (v := .slice none 0 0) (trs := []) rfl (OwnR.nil _ _ _ _ _) (u := .slice (some ⟨pb, po, none⟩) ps.length cp) (news := ps.map encSp) rfl (((Hp.out.low Hb3.out hB).rdP (by omega)).more fun b hb _ => ⟨.inl hb, fun e => by cases e⟩) leaf_sps (by simp; omega) (by unfold maxLen; simp; omega) (Nat.le_refl _) ?_)
                        intro v5 w5 hown5 hup5 _
                        rw [List.nil_append] at hown5
                        have Hown5 := Lh hown5
                        have hlow5 : Below w3.heap.size w3 w5 := hup5.toLow (Nat.le_refl _) (fun k e => by cases e)
                        have Hlow5 := Lh hlow5
                        clear hown5 hup5 hlow5)
 have hz5 := Hlow5.out.size
 have Hw5 := Lh (Hb3.out.trans (Hlow5.out.mono hb3z))
 go_loopw [10, 11, 12] (fun u i _ wr => ∃ j : Nat, j ≤ c.length ∧ i = .int .i64 j ∧ OwnR wr (fun _ => False) w5.heap.size 53 5 u ((shC d (c.take j)).map encLt) ∧ Below w5.heap.size w5 wr) (fun _ i _ _ => c.length - (intOf i).toNat)
 case atStart => exact ⟨0, Nat.zero_le _, rfl, OwnR.nil _ _ _ _ _, Below.refl _ _⟩
 obtain ⟨j, hj, rfl, hown, hup⟩ := hrel
 have hzr := hup.size
 have hur := hown.lt
 have Hown := Lh hown
 have Hup := Lh hup
 have hbw : Below w3.heap.size w3 wr := Hlow5.out.trans (hup.mono hz5)
 have q5 := (hbw.cell (p := ⟨pb, po + k * 6 + 5, none⟩) (show pb < w3.heap.size by omega)).trans P5.out
 have hkp : ¬ ((ps.length : Int) ≤ (k : Int)) := by omega
 have HBW := Lh hbw
 clear hown hup hbw
 by_cases hlt : j < c.length
 · obtain ⟨ab, off, n0, f1, ys1, E1, e1, f2, ys2, E2, e2, rfl, hxk, hab, k0, k1, k2, k3, k4, hr1, hr2⟩ := (Hcl.out.low HBW.out (by omega)).lt_at hlt
   have HXK := Lh hxk
   have HR1 := Lh hr1
   have HR2 := Lh hr2
   clear hxk hr1 hr2
   go_upto_region 11 with fail
   have hbx5 := below_box wr (.cells #[.bool n0, .int .i64 f1, .slice E1 ys1.length e1, .int .i64 f2, .slice E2 ys2.length e2] 53)
   have hbe5 : Box5 wr.heap.size 53 (.bool n0) (.int .i64 f1) (.slice E1 ys1.length e1) (.int .i64 f2) (.slice E2 ys2.length e2) (wr.alloc (.cells #[.bool n0, .int .i64 f1, .slice E1 ys1.length e1, .int .i64 f2, .slice E2 ys2.length e2] 53)) := heap_alloc_new wr _
   generalize wr.alloc (.cells #[.bool n0, .int .i64 f1, .slice E1 ys1.length e1, .int .i64 f2, .slice E2 ys2.length e2] 53) = w6 at hbx5 hbe5 ⊢
   have hz6x := hbx5.size
   have hbe5s := hbe5.lt
   have hown6 := Hown.out.low hbx5
   have hmem := sizeC_mem hlt
   rw [HXK.out] at hmem
   have hms : sizeTs ys1 + sizeTs ys2 ≤ 2000000 := by simp [sizeL, sizeT] at hmem; omega
   have hcl : ∀ w', Upd w6 w' (fun i => u10.ownBlock = some i) →
    Box5 wr.heap.size 53 (.bool n0) (.int .i64 f1) (.slice E1 ys1.length e1) (.int .i64 f2) (.slice E2 ys2.length e2) w' ∧ w6.heap.size ≤ w'.heap.size ∧
    Rd w' B (.sl 2 (encTms ys1)) (.slice E1 ys1.length e1) ∧ Rd w' B (.sl 2 (encTms ys2)) (.slice E2 ys2.length e2) := by
    intro w' h
    exact ⟨hbe5.upd h (fun e => by have := (hur _ e).2; omega), h.size, h.keepRd (HR1.out.low hbx5 (by omega)) (by omega) (fun i e => by have := (hur _ e).1; omega), h.keepRd (HR2.out.low hbx5 (by omega)) (by omega) (fun i e => by have := (hur _ e).1; omega)⟩
   have Hcl2 := Lh hcl
   obtain ⟨t1, ht1⟩ : ∃ t, shT d (.mk f1 ys1) = t := ⟨_, rfl⟩
   obtain ⟨t2, ht2⟩ : ∃ t, shT d (.mk f2 ys2) = t := ⟨_, rfl⟩
   have Ht1 := Lh ht1
   have Ht2 := Lh ht2
   have Hown6 := Lh hown6
   have Hbx5 := Lh hbx5
   have hlk : ((shC d (c.take j)).map encLt).length = j := by unfold shC; simp; omega
   have Hlk := Lh hlk
   clear hcl ht1 ht2 hown6 hbx5 hbe5 hmem k0 k1 k2 k3 k4 Hown hlk q5
   refine rg 15 (fun _ w' => Upd w6 w' (fun i => u10.ownBlock = some i)) ?_
   intro wd hwd hbd
   refine ⟨?_, fun hS => ?_⟩
   · exact Upd.low (hwd ▸ hbd) _
   refine ta 0 (u10) hS fun hS => ?_
   refine ta 1 (.pointer (some ⟨wr.heap.size, 0, none⟩)) hS fun hS => ?_
   refine tk 2 (.bool n0) hS ?_ fun hS => ?_
   · intro w' L hn hw
     have o1 := (Hcl2.out _ hw).1
     obtain ⟨p0, p1, p2, p3, p4⟩ := o1.cells
     simp [execOp, go_sem, p0]
   refine ta 3 (.pointer (some ⟨wr.heap.size, 1, none⟩)) hS fun hS => ?_
   refine tk 4 (.agg #[.int .i64 f1, .slice E1 ys1.length e1]) hS ?_ fun hS => ?_
   · intro w' L hn hw
     have o1 := (Hcl2.out _ hw).1
     obtain ⟨p0, p1, p2, p3, p4⟩ := o1.cells
     simp [execOp, go_sem, p1, p2]
   refine ta 5 (.int .i64 d) hS fun hS => ?_
   refine ta 7 (.pointer (some ⟨wr.heap.size, 3, none⟩)) hS fun hS => ?_
   refine tk 8 (.agg #[.int .i64 f2, .slice E2 ys2.length e2]) hS ?_ fun hS => ?_
   · intro w' L hn hw
     have o1 := (Hcl2.out _ hw).1
     obtain ⟨p0, p1, p2, p3, p4⟩ := o1.cells
     simp [execOp, go_sem, p3, p4]
   refine ta 9 (.int .i64 d) hS fun hS => ?_
   refine so 6 ?_
   have hh := Hcl2.out _ hS
   have o2 := hh.2.1
   have o3 := hh.2.2.1
   clear hh
   have hc6 := mv30_any d hd (sizeTs ys1 + 1) f1 ys1 (.slice E1 ys1.length e1) B wd (by omega) (by omega) o3 (by omega)
   rw [Ht1.out] at hc6
   refine wp_enter ?_ hc6 ?_
   · simp [execOp, resolve, invoke, go_sem]
   rintro e w7 ⟨B1, n1, rfl, hrd1, hb7⟩
   refine ⟨_, rfl, ?_⟩
   refine gS ?_ fun hS => ?_
   · exact hS.trans (Upd.low hb7 (fun _ => False)) (fun _ h => h.elim)
   refine so 10 ?_
   have hh := Hcl2.out _ hS
   have o2 := hh.2.1
   have o4 := hh.2.2.2
   clear hh
   have hc7 := mv30_any d hd (sizeTs ys2 + 1) f2 ys2 (.slice E2 ys2.length e2) B w7 (by omega) (by omega) o4 (by omega)
   rw [Ht2.out] at hc7
   refine wp_enter ?_ hc7 ?_
   · simp [execOp, resolve, invoke, go_sem]
   rintro e w8 ⟨B2, n2, rfl, hrd2, hb8⟩
   refine ⟨_, rfl, ?_⟩
   refine gS ?_ fun hS => ?_
   · exact hS.trans (Upd.low hb8 (fun _ => False)) (fun _ h => h.elim)
   refine ta 11 (.agg #[.bool n0, .int .i64 t1.fn, .slice B1 t1.args.length n1, .int .i64 t2.fn, .slice B2 t2.args.length n2]) hS fun hS => ?_
   refine so 12 ?_
   refine wp_value (v := .slice (some ⟨w8.heap.size, 0, none⟩) 1 1) (w' := w8.alloc (.cells #[.bool n0, .int .i64 t1.fn, .slice B1 t1.args.length n1, .int .i64 t2.fn, .slice B2 t2.args.length n2] 53)) (by simp [execOp, go_sem]) ?_
   have hg9 := heap_alloc_new w8 (.cells #[.bool n0, .int .i64 t1.fn, .slice B1 t1.args.length n1, .int .i64 t2.fn, .slice B2 t2.args.length n2] 53)
   have hb9 := below_box w8 (.cells #[.bool n0, .int .i64 t1.fn, .slice B1 t1.args.length n1, .int .i64 t2.fn, .slice B2 t2.args.length n2] 53)
   generalize w8.alloc (.cells #[.bool n0, .int .i64 t1.fn, .slice B1 t1.args.length n1, .int .i64 t2.fn, .slice B2 t2.args.length n2] 53) = w9 at hg9 hb9 ⊢
   refine gS ?_ fun hS => ?_
   · exact hS.trans (Upd.low hb9 (fun _ => False)) (fun _ h => h.elim)
   refine sl 13 ?_
   have hz7 := hb7.size
   have hz8 := hb8.size
   have hz9 := hb9.size
   have hzd : wd.heap.size = w6.heap.size := by rw [hwd]
   have hown9 := (((Hown6.out.low (hwd ▸ hbd : Below w6.heap.size w6 wd)).low hb7).low hb8).low hb9
   refine wpList_pushR w9 rfl (.tmp 55) (.tmp 67) _ rfl litT (M := fun _ => False) (base := w5.heap.size) (v := u10) (trs := (shC d (c.take j)).map encLt) (by simp [go_sem]) hown9 (g := w8.heap.size) (by simp [go_sem]) hg9 rfl (by intro y hy; simp at hy; rcases hy with rfl | rfl | rfl | rfl | rfl <;> rfl) (by rw [Hlk.out]; omega) (by rw [Hlk.out]; unfold maxLen; omega) (by omega) (encLt ⟨n0, t1, t2⟩) (by rcases t1 with ⟨_, _⟩; rcases t2 with ⟨_, _⟩; rfl) ?_ ?_
   · intro i h h'
     have hj2 : i < 5 := h'
     rcases t1 with ⟨tf1, ta1⟩
     rcases t2 with ⟨tf2, ta2⟩
     rcases (by omega : i = 0 ∨ i = 1 ∨ i = 2 ∨ i = 3 ∨ i = 4) with rfl | rfl | rfl | rfl | rfl
     · exact .leaf _
     · exact .leaf _
     · exact (((hrd1.low hb8).low hb9)).more fun b hb _ => ⟨.inr (by have : wd.heap.size ≤ b := hb; omega), fun e => by have := (hur _ e).2; have : wd.heap.size ≤ b := hb; omega⟩
     · exact .leaf _
     exact (hrd2.low hb9).more fun b hb _ => ⟨.inr (by have : w7.heap.size ≤ b := hb; omega), fun e => by have := (hur _ e).2; have : w7.heap.size ≤ b := hb; omega⟩
   intro v' w10 hown' hup' hat'
   refine gL ?_ fun hS => ?_
   · exact hS.trans hup' (fun _ h => .inl h)
   refine ta 14 (v') hS fun hS => ?_
   refine dn ?_
   have hsn : (shC d (c.take (j + 1))).map encLt = (shC d (c.take j)).map encLt ++ [encLt ⟨n0, t1, t2⟩] := by
    unfold shC
    have h1 := HXK.out
    have h2 := Ht1.out
    have h3 := Ht2.out
    rw [List.take_succ_eq_append_getElem hlt, List.map_append, List.map_append, h1]
    simp only [List.map_cons, List.map_nil, shL, h2, h3]
   have Hsn := Lh hsn
   have Ho := Lh hown'
   have Hu := Lh hS
   clear hsn hown' hS
   go_wp2_with fail
   go_roundw
   case rel =>
    refine ⟨j + 1, by omega, by go_num, by rw [Hsn.out]; exact Ho.out, ?_⟩
    exact Hup.out.trans ((Hbx5.out.mono hzr).trans (Hu.out.toLow (by omega) (fun i e => (hur _ e).1)))
   case measure => simp [intOf]; omega
 obtain rfl : j = c.length := by omega
 have hown := Hown.out
 rw [List.take_length] at hown
 have hwl : Below w.heap.size w wr := Hb3.out.trans (HBW.out.mono hb3z)
 have hown5 := Hown5.out.low Hup.out
 obtain ⟨Am, cm, hv5, -, -⟩ := hown5.form
 rw [List.length_map] at hv5
 subst hv5
 have hkm : k < (ps.map encSp).length := by rw [List.length_map]; exact hk
 obtain ⟨g, rfl, hgb, hgw, -, hrl, hfz, hcell⟩ := hown5.rowN hkm (by omega)
 obtain ⟨x5, hx5, -⟩ := hcell 5 (by omega)
 have hfz5 := hfz (k * 6 + 5)
 have hg5 : g < w5.heap.size := (Hown5.out.lt g rfl).2
 obtain ⟨Au, cu, hu9, -, -⟩ := hown.form
 have hlsh : (shC d c).length = c.length := by unfold shC; rw [List.length_map]
 rw [List.length_map, hlsh] at hu9
 subst hu9
 have hrdu : RdP wr (NbP (fun _ => False) w5.heap.size) (encCl (shC d c)) (.slice Au c.length cu) := hown.rd (by rw [List.length_map, hlsh]; omega)
 have hset := hown5.setPart hkm (show 5 < 6 by omega) (t := encCl (shC d c)) (u := .slice Au c.length cu) (hrdu.more fun b hb _ => by
  rcases hb with hb | hb
  · exact hb.elim
  exact ⟨.inr (by omega), by omega⟩)
 have hmap : (ps.map encSp).set k ((ps.map encSp)[k].set 5 (encCl (shC d c))) = (ps.set k s').map encSp := by
  rw [List.map_set, Henc.out, List.getElem_map]
 rw [hmap] at hset
 have hup7 : Upd wr (wr.setCell ⟨g, k * 6 + 5, none⟩ (.slice Au c.length cu)) (fun i => i = g) := upd_set _
 have hru7 := hrdu.upd hup7 (fun b hb _ e => by
  rcases hb with hb | hb
  · exact hb.elim
  omega)
 have Hset := Lh hset
 have Hup7 := Lh hup7
 have Hru7 := Lh hru7
 have Hwl := Lh hwl
 clear hset hup7 hru7 hrdu hown hown5 hmap hrl hcell hfz Hown Hown5 hwl
 go_upto_region 13 with fail
 generalize wr.setCell ⟨g, k * 6 + 5, none⟩ (.slice Au c.length cu) = w7 at Hset Hup7 Hru7 ⊢
 have hz7 := Hup7.out.size
 have hw7 : Below w.heap.size w w7 := Hwl.out.trans (Hup7.out.toLow (by have := Hwl.out.size; omega) (fun i e => by omega))
 have hrd7 : Rd w7 w7.heap.size (encSps (ps.set k s')) (.slice (some ⟨g, 0, none⟩) ps.length cm) := (Hset.out.rd (by rw [List.length_map, List.length_set]; omega)).rd'
 have Hw7 := Lh hw7
 have H37 : Hid (Below w3.heap.size w3 w7) := Lh (HBW.out.trans (Hup7.out.toLow (by omega) (fun i e => by omega)))
 have Hrd7 := Lh hrd7
 have Hru := Lh Hru7.out.rd'
 have q57 := (Hup7.out.toLow (B := w3.heap.size) (by omega) (fun i e => by omega) |>.cell (p := ⟨pb, po + k * 6 + 5, none⟩) (show pb < w3.heap.size by omega)).trans q5
 have Q57 := Lh q57
 clear hw7 hrd7 Hset Hup7 Hru7 Hwl hx5 hfz5 q5 q57 Hup HBW
 go_wp2_with fail
 refine (fits30_any (shC d c) _ w7.heap.size w7 (by rw [sizeC_sh]; exact hzc) Hru.out (Nat.le_refl _)).mono ?_
 rintro e w8 ⟨b1, rfl, hb8, hl1⟩
 have Hb8 := Lh hb8
 have Hw8 := Lh (Hw7.out.trans (hb8.mono Hw7.out.size))
 have hz8 := hb8.size
 have q58 := (hb8.cell (p := ⟨pb, po + k * 6 + 5, none⟩) (show pb < w7.heap.size by have := Hw7.out.size; omega)).trans Q57.out
 clear hb8
 cases b1 with
 | false =>
   go_wp2_with (
    go_at_call 11
    refine (wakes_any _).mono ?_
    rintro e w4 ⟨rfl, hb4⟩)
   go_ret
   exact ⟨rfl, Hw8.out.trans (hb4.mono Hw8.out.size)⟩
 | true =>
 have Hl1 : Hid (lowC (shC d c)) := Lh (hl1 (by first | rfl | trivial))
 clear hl1
 go_wp2_with fail
 refine (fits30_any c _ B w8 hzc ((Hcl.out.low (H37.out.trans (Hb8.out.mono H37.out.size)) (by omega))) (by have := Hw7.out.size; omega)).mono ?_
 rintro e w9 ⟨b2, rfl, hb9, hl2⟩
 have Hb9 := Lh hb9
 have Hw9 := Lh (Hw8.out.trans (hb9.mono Hw8.out.size))
 have hz9 := hb9.size
 clear hb9
 cases b2 with
 | false =>
   go_wp2_with (
    go_at_call 11
    refine (wakes_any _).mono ?_
    rintro e w4 ⟨rfl, hb4⟩)
   go_ret
   exact ⟨rfl, Hw9.out.trans (hb4.mono Hw9.out.size)⟩
 | true =>
 have Hl2 : Hid (lowC c) := Lh (hl2 (by first | rfl | trivial))
 clear hl2
 have hst := Hnm.out Hl2.out Hl1.out
 obtain ⟨b, hb⟩ : ∃ b, stepM inp ps (k : Nat) = b := ⟨_, rfl⟩
 rw [hb] at hst
 have hc1 := step_any inp ps k _ _ B w9 (Hi.out.low Hw9.out hB) (Hp.out.low Hw9.out hB) (by have := Hw9.out.size; omega) Hok.out
 rw [hb] at hc1
 have hc2 := fun (w' : World) (hb : Below w9.heap.size w9 w') => step_any inp (ps.set k s') k _ _ w7.heap.size w' ((Hi.out.low (Hw9.out.trans (hb.mono Hw9.out.size)) hB).more (by have := Hw7.out.size; omega)) (Hrd7.out.low ((Hb8.out.trans (Hb9.out.mono hz8)).trans (hb.mono (by omega))) (Nat.le_refl _)) (by have := hb.size; omega) Hokn.out
 rw [hst] at hc2
 have Hc1 := Lh hc1
 have Hc2 := Lh hc2
 clear hc1 hc2 hst hb
 go_wp2_with (first
  | (
   go_at_call 11
   refine (wakes_any _).mono ?_
   rintro e w12 ⟨rfl, hb12⟩
   have Hb12 := Lh hb12
   clear hb12)
  | (
   go_at_call 10
   refine (Hc2.out _ Hb10.out).mono ?_
   rintro e w11 ⟨rfl, hb11⟩
   have Hb11 := Lh hb11
   clear hb11)
  | (
   go_at_call 10
   refine Hc1.out.mono ?_
   rintro e w10 ⟨rfl, hb10⟩
   have Hb10 := Lh hb10
   clear hb10))
 go_ret
 exact ⟨rfl, Hw9.out.trans ((Hb10.out.trans ((Hb11.out.trans (Hb12.out.mono Hb11.out.size)).mono Hb10.out.size)).mono Hw9.out.size)⟩
end Go.Proofs.Ytiaoabfndnidiaa
