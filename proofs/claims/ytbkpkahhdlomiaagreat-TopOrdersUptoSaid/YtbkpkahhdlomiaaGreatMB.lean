/-
  Part 2 of the proof over the checker: walks and plain laws.
-/
import Derived.Test.YtbkpkahhdlomiaaGreatMA
import Derived.Maps.Own
import Derived.Test.YtbkpkahhdlomiaaGreatProg
import Derived.Maps.RangeWalk
set_option maxRecDepth 100000
set_option maxHeartbeats 8000000
set_option linter.unusedSimpArgs false
set_option linter.unusedVariables false
namespace Go.Proofs.YtbkpkahhdlomiaaGreat
structure KP where
 pr : Int → Int
 wf : Int → Nat
mutual
def wT (o : KP) : Tm → Nat
 | .mk f xs => (if f < 0 then 1 else o.wf f) + wTs o xs
def wTs (o : KP) : List Tm → Nat
 | [] => 0
 | x :: xs => wT o x + wTs o xs
end
def arnd (f v : Int) : Tm → Bool
 | .mk g [x] => if g = f then arnd f v x else decide (g = v)
 | .mk g _ => decide (g = v)
open Classical in
noncomputable def kfin (s t : Tm) (r : Rl) : Rl :=
 if s = t then .eq else if r = .gt ∧ leV t s then .gt else if r = .lt ∧ leV s t then .lt else .no
def krsn (o : KP) (f : Int) (xs : List Tm) (g : Int) (ys : List Tm) (l : Rl) : Rl :=
 if wT o (.mk g ys) < wT o (.mk f xs) then .gt
 else if wT o (.mk f xs) < wT o (.mk g ys) then .lt
 else if f < 0 ∧ g < 0 then .no
 else if g < 0 then (if arnd f g (.mk f xs) then .gt else .no)
 else if f < 0 then (if arnd g f (.mk g ys) then .lt else .no)
 else if f = g then l
 else if o.pr g < o.pr f then .gt else if o.pr f < o.pr g then .lt else .no
open Classical in
mutual
noncomputable def kcmp (o : KP) : Tm → Tm → Rl
 | .mk f xs, .mk g ys => kfin (.mk f xs) (.mk g ys) (krsn o f xs g ys (klex o xs ys))
noncomputable def klex (o : KP) : List Tm → List Tm → Rl
 | [], _ => .lt
 | _ :: _, [] => .gt
 | x :: xs, y :: ys => if x = y then klex o xs ys else kcmp o x y
end
theorem kfin_self (s : Tm) (r : Rl) : kfin s s r = .eq := by unfold kfin; rw [if_pos rfl]
theorem kcmp_self (o : KP) (s : Tm) : kcmp o s s = .eq := by rcases s with ⟨f, xs⟩; rw [kcmp, kfin_self]
theorem kfin_eq {s t : Tm} {r : Rl} (h : kfin s t r = .eq) : s = t := by
 unfold kfin at h
 split at h
 · assumption
 split at h
 · cases h
 split at h <;> cases h
theorem kcmp_eq (o : KP) {s t : Tm} (h : kcmp o s t = .eq) : s = t := by
 rcases s with ⟨f, xs⟩; rcases t with ⟨g, ys⟩
 rw [kcmp] at h
 exact kfin_eq h
theorem kfin_gt {s t : Tm} {r : Rl} : kfin s t r = .gt ↔ s ≠ t ∧ r = .gt ∧ leV t s := by
 unfold kfin
 by_cases h : s = t
 · rw [if_pos h]; exact ⟨fun h => (by cases h), fun h' => absurd h h'.1⟩
 rw [if_neg h]
 by_cases h2 : r = .gt ∧ leV t s
 · rw [if_pos h2]; exact ⟨fun _ => ⟨h, h2⟩, fun _ => rfl⟩
 rw [if_neg h2]
 constructor
 · intro h3; split at h3 <;> cases h3
 intro h3; exact absurd h3.2 h2
theorem kfin_turn {s t : Tm} {r r' : Rl} (hr : s ≠ t → r' = r.turn) : kfin t s r' = (kfin s t r).turn := by
 by_cases h : s = t
 · subst h; rw [kfin_self, kfin_self]; rfl
 rw [hr h]
 unfold kfin
 rw [if_neg (fun e => h e.symm), if_neg h]
 cases r with
 | no => simp [Rl.turn]
 | eq => simp [Rl.turn]
 | gt =>
   by_cases h2 : leV t s
   · rw [if_neg (by simp [Rl.turn]), if_pos ⟨rfl, h2⟩, if_pos ⟨rfl, h2⟩]; rfl
   rw [if_neg (by simp [Rl.turn]), if_neg (fun e => h2 e.2), if_neg (fun e => h2 e.2), if_neg (by simp)]; rfl
 | lt =>
   by_cases h2 : leV s t
   · rw [if_pos ⟨rfl, h2⟩, if_neg (by simp), if_pos ⟨rfl, h2⟩]; rfl
   rw [if_neg (fun e => h2 e.2), if_neg (by simp [Rl.turn]), if_neg (by simp), if_neg (fun e => h2 e.2)]; rfl
theorem krsn_turn (o : KP) {f g : Int} {xs ys : List Tm} {l l' : Rl} (h : f = g → l' = l.turn) : krsn o g ys f xs l' = (krsn o f xs g ys l).turn := by
 unfold krsn
 generalize wT o (.mk g ys) = a
 generalize wT o (.mk f xs) = b
 generalize arnd f g (.mk f xs) = c
 generalize arnd g f (.mk g ys) = d
 by_cases h1 : a < b
 · have h1' : ¬ b < a := by omega
   simp only [h1, h1', if_true, if_false]; rfl
 by_cases h2 : b < a
 · simp only [h1, h2, if_true, if_false]; rfl
 simp only [h1, h2, if_false]
 by_cases h3 : f < 0 <;> by_cases h4 : g < 0 <;> simp only [h3, h4, and_true, true_and, and_false, false_and, if_true, if_false]
 · rfl
 · cases d <;> rfl
 · cases c <;> rfl
 by_cases h5 : f = g
 · rw [if_pos h5, if_pos h5.symm, h h5]
 rw [if_neg h5, if_neg (fun e => h5 e.symm)]
 by_cases h6 : o.pr g < o.pr f
 · have h6' : ¬ o.pr f < o.pr g := by omega
   simp only [h6, h6', if_true, if_false]; rfl
 simp only [h6, if_false]
 by_cases h7 : o.pr f < o.pr g
 · simp only [h7, if_true]; rfl
 simp only [h7, if_false]; rfl
mutual
theorem kcmp_turn (o : KP) : ∀ s t : Tm, kcmp o t s = (kcmp o s t).turn
 | .mk f xs, .mk g ys => by
   rw [kcmp, kcmp]
   refine kfin_turn fun hne => krsn_turn o fun hfg => klex_turn o xs ys fun e => hne (by rw [e, hfg])
theorem klex_turn (o : KP) : ∀ xs ys : List Tm, xs ≠ ys → klex o ys xs = (klex o xs ys).turn
 | [], [], h => absurd rfl h
 | [], y :: ys, _ => by rw [klex, klex]; rfl
 | x :: xs, [], _ => by rw [klex, klex]; rfl
 | x :: xs, y :: ys, h => by
   rw [klex, klex]
   by_cases e : x = y
   · rw [if_pos e, if_pos e.symm]
     exact klex_turn o xs ys fun e' => h (by rw [e, e'])
   rw [if_neg e, if_neg (fun e' => e e'.symm)]
   exact kcmp_turn o x y
end
theorem kgt_iff (o : KP) {f g : Int} {xs ys : List Tm} : kcmp o (.mk f xs) (.mk g ys) = .gt ↔
 Tm.mk f xs ≠ .mk g ys ∧ leV (.mk g ys) (.mk f xs) ∧ (wT o (.mk g ys) < wT o (.mk f xs) ∨ (wT o (.mk g ys) = wT o (.mk f xs) ∧ 0 ≤ f ∧
  ((g < 0 ∧ arnd f g (.mk f xs) = true) ∨ (0 ≤ g ∧ f ≠ g ∧ o.pr g < o.pr f) ∨ (0 ≤ g ∧ f = g ∧ klex o xs ys = .gt)))) := by
 rw [kcmp, kfin_gt]
 refine and_congr_right fun hne => ?_
 rw [And.comm]
 refine and_congr_right fun hle => ?_
 unfold krsn
 by_cases h1 : wT o (.mk g ys) < wT o (.mk f xs)
 · rw [if_pos h1]; exact ⟨fun _ => .inl h1, fun _ => rfl⟩
 rw [if_neg h1]
 by_cases h2 : wT o (.mk f xs) < wT o (.mk g ys)
 · rw [if_pos h2]
   constructor
   · intro h; cases h
   intro h; omega
 rw [if_neg h2]
 have h12 : wT o (.mk g ys) = wT o (.mk f xs) := by omega
 by_cases h3 : f < 0 <;> by_cases h4 : g < 0
 · rw [if_pos ⟨h3, h4⟩]
   exact ⟨fun h => (by cases h), fun h => by omega⟩
 · rw [if_neg (fun e => h4 e.2), if_neg h4, if_pos h3]
   constructor
   · intro h; split at h <;> cases h
   intro h; omega
 · rw [if_neg (fun e => h3 e.1), if_pos h4]
   constructor
   · intro h
     split at h
     · rename_i ha
       exact .inr ⟨h12, by omega, .inl ⟨h4, ha⟩⟩
     cases h
   rintro (h | ⟨-, -, h | h | h⟩)
   · omega
   · rw [if_pos h.2]
   · omega
   omega
 rw [if_neg (fun e => h3 e.1), if_neg h4, if_neg h3]
 by_cases h5 : f = g
 · rw [if_pos h5]
   constructor
   · intro h; exact .inr ⟨h12, by omega, .inr (.inr ⟨by omega, h5, h⟩)⟩
   rintro (h | ⟨-, -, h | h | h⟩)
   · omega
   · omega
   · exact absurd h5 h.2.1
   exact h.2.2
 rw [if_neg h5]
 constructor
 · intro h
   split at h
   · rename_i h6
     exact .inr ⟨h12, by omega, .inr (.inl ⟨by omega, h5, h6⟩)⟩
   split at h <;> cases h
 rintro (h | ⟨-, -, h | h | h⟩)
 · omega
 · omega
 · rw [if_pos h.2.2]
 exact absurd h.2.1 h5
structure KOk (o : KP) (ar : Int → Option Nat) : Prop where
 inj : ∀ f g, 0 ≤ f → 0 ≤ g → ar f ≠ none → ar g ≠ none → o.pr f = o.pr g → f = g
 w0 : ∀ f, 0 ≤ f → ar f = some 0 → 1 ≤ o.wf f
 w1 : ∀ f, 0 ≤ f → ar f = some 1 → o.wf f = 0 → ∀ g, 0 ≤ g → ar g ≠ none → o.pr g ≤ o.pr f
theorem wT_pos {o : KP} {ar : Int → Option Nat} (ok : KOk o ar) : ∀ (n : Nat) (t : Tm), sizeT t < n → wfT ar t → 1 ≤ wT o t
 | 0, t, h, _ => by omega
 | n + 1, .mk f xs, hn, h => by
   rw [wT]
   by_cases hf : f < 0
   · rw [if_pos hf]; omega
   rw [if_neg hf]
   cases xs with
   | nil => have := ok.w0 f (by omega) (h.ar (by omega)); omega
   | cons x xs =>
     have h1 := wT_pos ok n x (by have := sizeT_arg (f := f) (List.mem_cons_self (a := x) (l := xs)); omega) (h.args List.mem_cons_self)
     rw [wTs]; omega
theorem wT_pos' {o : KP} {ar : Int → Option Nat} (ok : KOk o ar) {t : Tm} (h : wfT ar t) : 1 ≤ wT o t := wT_pos ok _ t (Nat.lt_succ_self _) h
theorem wTs_len {o : KP} {ar : Int → Option Nat} (ok : KOk o ar) : ∀ {xs : List Tm}, (∀ x ∈ xs, wfT ar x) → xs.length ≤ wTs o xs
 | [], _ => by simp
 | x :: xs, h => by
   have h1 := wT_pos' ok (h x List.mem_cons_self)
   have h2 := wTs_len ok (xs := xs) fun y hy => h y (List.mem_cons_of_mem _ hy)
   rw [wTs, List.length_cons]; omega
theorem wTs_other {o : KP} {ar : Int → Option Nat} (ok : KOk o ar) : ∀ {xs : List Tm} {x : Tm}, (∀ x ∈ xs, wfT ar x) → x ∈ xs → wT o x + (xs.length - 1) ≤ wTs o xs
 | y :: ys, x, h, hx => by
   have hl := wTs_len ok (xs := ys) fun y hy => h y (List.mem_cons_of_mem _ hy)
   have hp := wT_pos' ok (h y List.mem_cons_self)
   rw [wTs, List.length_cons]
   rcases List.mem_cons.1 hx with rfl | hx
   · omega
   have := wTs_other ok (fun y hy => h y (List.mem_cons_of_mem _ hy)) hx; omega
theorem wT_same {o : KP} {ar : Int → Option Nat} (ok : KOk o ar) {f : Int} {xs : List Tm} {x : Tm} (h : wfT ar (.mk f xs)) (hx : x ∈ xs) (hw : wT o (.mk f xs) ≤ wT o x) : 0 ≤ f ∧ o.wf f = 0 ∧ xs = [x] ∧ wT o (.mk f xs) = wT o x := by
 have ho := wTs_other ok (fun y hy => h.args hy) hx
 rw [wT] at hw ⊢
 by_cases hf : f < 0
 · rw [if_pos hf] at hw; omega
 rw [if_neg hf] at hw ⊢
 have hl : xs.length = 1 := by
  have : 0 < xs.length := List.length_pos_of_mem hx
  omega
 obtain ⟨y, rfl⟩ := List.length_eq_one_iff.1 hl
 rw [List.mem_singleton] at hx
 subst hx
 exact ⟨by omega, by omega, rfl, by omega⟩
theorem arnd_of {o : KP} {ar : Int → Option Nat} (ok : KOk o ar) {v : Int} (hv : v < 0) : ∀ (n : Nat) (f : Int) (xs : List Tm), sizeT (.mk f xs) < n → wfT ar (.mk f xs) → 0 ≤ f → v ∈ vL (.mk f xs) → wT o (.mk f xs) ≤ 1 → arnd f v (.mk f xs) = true
 | 0, f, xs, h, _, _, _, _ => by omega
 | n + 1, f, xs, hn, h, hf, hm, hw => by
   rw [vL, if_neg (by omega), List.nil_append] at hm
   obtain ⟨x, hx, hvx⟩ := vLs_arg hm
   have hwx := wT_pos' ok (h.args hx)
   obtain ⟨-, h0, rfl, -⟩ := wT_same ok h hx (by omega)
   rcases x with ⟨g, ys⟩
   rw [arnd, if_pos rfl]
   have hz := sizeT_arg (f := f) hx
   have hwf := h.args hx
   have hle : wT o (.mk g ys) ≤ 1 := by
    rw [wT, wTs, wTs] at hw; omega
   by_cases hg : g < 0
   · obtain rfl := hwf.var hg
     rw [vL, if_pos hg, vLs, List.append_nil, List.mem_singleton] at hvx
     subst hvx
     rw [arnd]
     · simp
     intro x e; cases e
   have hgf : g = f := by
    have hvx2 := hvx
    rw [vL, if_neg hg, List.nil_append] at hvx2
    obtain ⟨y, hy, hvy⟩ := vLs_arg hvx2
    obtain ⟨-, h0', rfl, -⟩ := wT_same ok hwf hy (by have := wT_pos' ok (hwf.args hy); omega)
    have ag := hwf.ar (by omega)
    have af := h.ar (by omega)
    exact ok.inj g f (by omega) hf (by rw [ag]; simp) (by rw [af]; simp) (by
     have := ok.w1 f hf af h0 g (by omega) (by rw [ag]; simp)
     have := ok.w1 g (by omega) ag h0' f hf (by rw [af]; simp)
     omega)
   subst hgf
   exact arnd_of ok hv n g ys (by omega) hwf hf hvx hle
theorem kgt_var {o : KP} {ar : Int → Option Nat} (ok : KOk o ar) {v : Int} {f : Int} {xs : List Tm} (hv : v < 0) (h : wfT ar (.mk f xs)) (hf : 0 ≤ f) (hm : v ∈ vL (.mk f xs)) : kcmp o (.mk f xs) (.mk v []) = .gt := by
 rw [kgt_iff]
 have h1 : wT o (.mk v []) = 1 := by rw [wT, if_pos hv, wTs]
 refine ⟨fun e => by injection e; omega, fun u => ?_, ?_⟩
 · rw [show vL (.mk v []) = [v] by rw [vL, if_pos hv, vLs]; rfl, List.count_cons, List.count_nil]
   split
   · rename_i e
     rw [beq_iff_eq] at e
     subst e
     exact List.count_pos_iff.2 hm
   omega
 have hp := wT_pos' ok h
 by_cases hw : 1 < wT o (.mk f xs)
 · left; omega
 right
 refine ⟨by omega, hf, .inl ⟨hv, arnd_of ok hv _ f xs (Nat.lt_succ_self _) h hf hm (by omega)⟩⟩
theorem klex_self (o : KP) : ∀ xs : List Tm, klex o xs xs = .lt
 | [] => by rw [klex]
 | x :: xs => by rw [klex, if_pos rfl, klex_self o xs]
theorem kcmp_ne (o : KP) {s t : Tm} (h : kcmp o s t = .gt) : s ≠ t := by
 rintro rfl
 rw [kcmp_self] at h; cases h
theorem kgt_arg {o : KP} {ar : Int → Option Nat} (ok : KOk o ar) : ∀ (n : Nat) (f : Int) (xs : List Tm) (x : Tm), sizeT x < n → wfT ar (.mk f xs) → x ∈ xs → kcmp o (.mk f xs) x = .gt
 | 0, f, xs, x, hn, _, _ => by omega
 | n + 1, f, xs, .mk g ys, hn, h, hx => by
   rw [kgt_iff]
   refine ⟨ne_arg hx, leV_arg hx, ?_⟩
   by_cases hw : wT o (.mk g ys) < wT o (.mk f xs)
   · exact .inl hw
   obtain ⟨hf, h0, rfl, he⟩ := wT_same ok h hx (by omega)
   refine .inr ⟨he.symm, hf, ?_⟩
   have hg := h.args hx
   by_cases hg0 : g < 0
   · obtain rfl := hg.var hg0
     refine .inl ⟨hg0, ?_⟩
     rw [arnd, if_pos rfl, arnd]
     · simp
     intro x e; cases e
   have af := h.ar hf
   have ag := hg.ar (by omega)
   by_cases hfg : f = g
   · subst hfg
     refine .inr (.inr ⟨hf, rfl, ?_⟩)
     have hl := h.len hg hf
     obtain ⟨y, rfl⟩ := List.length_eq_one_iff.1 hl.symm
     rw [klex, if_neg (ne_arg List.mem_cons_self)]
     exact kgt_arg ok n f [y] y (by have := sizeT_arg (f := f) (List.mem_cons_self (a := y) (l := [])); omega) hg List.mem_cons_self
   refine .inr (.inl ⟨by omega, hfg, ?_⟩)
   have h1 := ok.w1 f hf af h0 g (by omega) (by rw [ag]; simp)
   have h2 : o.pr g ≠ o.pr f := fun e => hfg (ok.inj g f (by omega) hf (by rw [ag]; simp) (by rw [af]; simp) e).symm
   omega
theorem klex_trans (o : KP) : ∀ (xs ys zs : List Tm), xs.length = ys.length → ys.length = zs.length → (∀ x ∈ xs, ∀ y ∈ ys, ∀ z ∈ zs, kcmp o x y = .gt → kcmp o y z = .gt → kcmp o x z = .gt) →
 klex o xs ys = .gt → klex o ys zs = .gt → klex o xs zs = .gt
 | [], _, _, _, _, _, h, _ => by rw [klex] at h; cases h
 | x :: xs, [], _, h, _, _, _, _ => by cases h
 | x :: xs, y :: ys, [], _, h, _, _, _ => by cases h
 | x :: xs, y :: ys, z :: zs, h1, h2, ih, g1, g2 => by
   rw [klex] at g1 g2 ⊢
   have ih0 := ih x List.mem_cons_self y List.mem_cons_self z List.mem_cons_self
   by_cases e1 : x = y
   · rw [if_pos e1] at g1
     by_cases e2 : y = z
     · rw [if_pos e2] at g2
       rw [if_pos (e1.trans e2)]
       exact klex_trans o xs ys zs (by simpa using h1) (by simpa using h2) (fun a ha b hb c hc => ih a (List.mem_cons_of_mem _ ha) b (List.mem_cons_of_mem _ hb) c (List.mem_cons_of_mem _ hc)) g1 g2
     rw [if_neg e2] at g2
     subst e1
     rw [if_neg e2]; exact g2
   rw [if_neg e1] at g1
   by_cases e2 : y = z
   · subst e2
     rw [if_neg e1]; exact g1
   rw [if_neg e2] at g2
   have := ih0 g1 g2
   rw [if_neg (kcmp_ne o this)]; exact this
theorem kgt_trans {o : KP} {ar : Int → Option Nat} (ok : KOk o ar) : ∀ (n : Nat) (s t u : Tm), sizeT s < n → wfT ar s → wfT ar t → wfT ar u → kcmp o s t = .gt → kcmp o t u = .gt → kcmp o s u = .gt
 | 0, s, _, _, hn, _, _, _, _, _ => by omega
 | n + 1, .mk f xs, .mk g ys, .mk h zs, hn, hs, ht, hu, g1, g2 => by
   rw [kgt_iff] at g1 g2
   obtain ⟨n1, l1, g1⟩ := g1
   obtain ⟨n2, l2, g2⟩ := g2
   by_cases hf : f < 0
   · obtain rfl := hs.var hf
     have h1 : wT o (.mk f []) = 1 := by rw [wT, if_pos hf, wTs]
     have := wT_pos' ok ht
     omega
   by_cases hh : h < 0
   · obtain rfl := hu.var hh
     exact kgt_var ok hh hs (by omega) ((l2.trans l1).mem (by rw [vL, if_pos hh, vLs]; simp))
   rw [kgt_iff]
   by_cases hw : wT o (.mk h zs) < wT o (.mk f xs)
   · exact ⟨fun e => by rw [e] at hw; omega, l2.trans l1, .inl hw⟩
   obtain ⟨w1, -, c1⟩ : wT o (.mk g ys) = wT o (.mk f xs) ∧ 0 ≤ f ∧ _ := by
    rcases g1 with g1 | g1
    · omega
    exact g1
   obtain ⟨w2, g0, c2⟩ : wT o (.mk h zs) = wT o (.mk g ys) ∧ 0 ≤ g ∧ _ := by
    rcases g2 with g2 | g2
    · omega
    exact g2
   rcases c1 with c1 | c1 | ⟨-, e1, c1⟩
   · omega
   all_goals rcases c2 with c2 | c2 | ⟨-, e2, c2⟩
   · omega
   · have : f ≠ h := fun e => by subst e; omega
     exact ⟨fun e => by injection e; omega, l2.trans l1, .inr ⟨by omega, by omega, .inr (.inl ⟨by omega, this, by omega⟩)⟩⟩
   · subst e2
     exact ⟨fun e => by injection e; omega, l2.trans l1, .inr ⟨by omega, by omega, .inr (.inl c1)⟩⟩
   · omega
   · subst e1
     exact ⟨fun e => by injection e; omega, l2.trans l1, .inr ⟨by omega, by omega, .inr (.inl c2)⟩⟩
   subst e1
   subst e2
   have hk := klex_trans o xs ys zs (hs.len ht (by omega)) (ht.len hu (by omega)) (fun x hx y hy z hz => kgt_trans ok n x y z (by have := sizeT_arg (f := f) hx; omega) (hs.args hx) (ht.args hy) (hu.args hz)) c1 c2
   exact ⟨fun e => (by injection e with _ e; rw [e, klex_self] at hk; cases hk), l2.trans l1, .inr ⟨by omega, by omega, .inr (.inr ⟨by omega, rfl, hk⟩)⟩⟩
theorem wT_putU {o : KP} {ar : Int → Option Nat} (ok : KOk o ar) (σ : Int → Option Tm) (hσ : ∀ f t, σ f = some t → wfT ar t) : ∀ (n : Nat) (t : Tm), sizeT t < n → wfT ar t → wT o (putU σ t) = wT o t + ((vL t).map fun v => wT o (atV σ v) - 1).sum
 | 0, t, h, _ => by omega
 | n + 1, .mk f xs, hn, h => by
   by_cases hf : f < 0
   · obtain rfl := h.var hf
     rw [putU_var σ hf, show vL (.mk f []) = [f] by rw [vL, if_pos hf, vLs]; rfl, wT, if_pos hf, wTs]
     have := wT_pos' ok (atV_wf hσ hf)
     simp; omega
   rw [putU_sym σ (by omega), wT, wT, if_neg hf, vL, if_neg hf, List.nil_append]
   have ih : ∀ x ∈ xs, wT o (putU σ x) = wT o x + ((vL x).map fun v => wT o (atV σ v) - 1).sum := fun x hx => wT_putU ok σ hσ n x (by have := sizeT_arg (f := f) hx; omega) (h.args hx)
   clear h hn hf
   have : wTs o (xs.map (putU σ)) = wTs o xs + ((vLs xs).map fun v => wT o (atV σ v) - 1).sum := by
    induction xs with
    | nil => rw [List.map_nil, wTs, vLs]; rfl
    | cons x xs ih' =>
      rw [List.map_cons, wTs, wTs, vLs, List.map_append, List.sum_append, ih x List.mem_cons_self, ih' fun y hy => ih y (List.mem_cons_of_mem _ hy)]
      omega
   omega
theorem klex_map (o : KP) (φ : Tm → Tm) : ∀ (xs ys : List Tm), (∀ x ∈ xs, ∀ y ∈ ys, kcmp o x y = .gt → kcmp o (φ x) (φ y) = .gt) → xs.length = ys.length → klex o xs ys = .gt → klex o (xs.map φ) (ys.map φ) = .gt
 | [], _, _, _, h => by rw [klex] at h; cases h
 | x :: xs, [], _, h, _ => by cases h
 | x :: xs, y :: ys, ih, hl, h => by
   rw [klex] at h
   rw [List.map_cons, List.map_cons, klex]
   by_cases e : x = y
   · rw [if_pos e] at h
     subst e
     rw [if_pos rfl]
     exact klex_map o φ xs ys (fun a ha b hb => ih a (List.mem_cons_of_mem _ ha) b (List.mem_cons_of_mem _ hb)) (by simpa using hl) h
   rw [if_neg e] at h
   have := ih x List.mem_cons_self y List.mem_cons_self h
   rw [if_neg (kcmp_ne o this)]; exact this
theorem kgt_in {o : KP} {ar : Int → Option Nat} (ok : KOk o ar) (σ : Int → Option Tm) (hσ : ∀ f t, σ f = some t → wfT ar t) {v : Int} : ∀ (n : Nat) (f : Int) (xs : List Tm), sizeT (.mk f xs) < n → 0 ≤ f → wfT ar (.mk f xs) → v ∈ vL (.mk f xs) → kcmp o (putU σ (.mk f xs)) (atV σ v) = .gt
 | 0, f, xs, hn, _, _, _ => by omega
 | n + 1, f, xs, hn, hf, h, hm => by
   rw [vL, if_neg (by omega), List.nil_append] at hm
   obtain ⟨⟨g, ys⟩, hx, hvx⟩ := vLs_arg hm
   have hw := putU_wf hσ _ _ (Nat.lt_succ_self _) h
   have hs := sizeT_arg (f := f) hx
   rw [putU_sym σ hf] at hw ⊢
   have h1 := kgt_arg ok _ _ _ (putU σ (.mk g ys)) (Nat.lt_succ_self _) hw (List.mem_map_of_mem hx)
   have hg := h.args hx
   by_cases hg0 : g < 0
   · obtain rfl := hg.var hg0
     rw [vL, if_pos hg0, vLs, List.append_nil, List.mem_singleton] at hvx
     subst hvx
     rw [putU_var σ hg0] at h1
     exact h1
   have h2 := kgt_in ok σ hσ n g ys (by omega) (by omega) hg hvx
   exact kgt_trans ok _ _ _ _ (Nat.lt_succ_self _) hw (putU_wf hσ _ _ (Nat.lt_succ_self _) hg) (atV_wf hσ (vL_neg _ _ hvx)) h1 h2
theorem kgt_putU {o : KP} {ar : Int → Option Nat} (ok : KOk o ar) (σ : Int → Option Tm) (hσ : ∀ f t, σ f = some t → wfT ar t) : ∀ (n : Nat) (s t : Tm), sizeT s < n → wfT ar s → wfT ar t → kcmp o s t = .gt → kcmp o (putU σ s) (putU σ t) = .gt
 | 0, s, _, hn, _, _, _ => by omega
 | n + 1, .mk f xs, .mk g ys, hn, hs, ht, h => by
   have h0 := h
   rw [kgt_iff] at h
   obtain ⟨n1, l1, h⟩ := h
   have hf : 0 ≤ f := by
    by_cases hf : f < 0
    · obtain rfl := hs.var hf
      have h1 : wT o (.mk f []) = 1 := by rw [wT, if_pos hf, wTs]
      have := wT_pos' ok ht
      omega
    omega
   by_cases hg : g < 0
   · obtain rfl := ht.var hg
     rw [putU_var σ hg]
     exact kgt_in ok σ hσ _ f xs (Nat.lt_succ_self _) hf hs (l1.mem (by rw [vL, if_pos hg, vLs]; simp))
   have w1 := wT_putU ok σ hσ _ _ (Nat.lt_succ_self _) hs
   have w2 := wT_putU ok σ hσ _ _ (Nat.lt_succ_self _) ht
   have w3 := sum_le_count (fun v => wT o (atV σ v) - 1) _ _ l1
   have l2 := leV_putU σ ht hs l1
   rw [putU_sym σ hf] at w1 l2 ⊢
   rw [putU_sym σ (by omega)] at w2 l2 ⊢
   rw [kgt_iff]
   by_cases hw : wT o (.mk g (ys.map (putU σ))) < wT o (.mk f (xs.map (putU σ)))
   · exact ⟨fun e => by rw [e] at hw; omega, l2, .inl hw⟩
   rcases h with h | ⟨w4, -, h | h | ⟨-, e1, h⟩⟩
   · omega
   · omega
   · exact ⟨fun e => by injection e; omega, l2, .inr ⟨by omega, hf, .inr (.inl h)⟩⟩
   subst e1
   have hk := klex_map o (putU σ) xs ys (fun x hx y hy => kgt_putU ok σ hσ n x y (by have := sizeT_arg (f := f) hx; omega) (hs.args hx) (ht.args hy)) (hs.len ht hf) h
   exact ⟨fun e => (by injection e with _ e; rw [e, klex_self] at hk; cases hk), l2, .inr ⟨by omega, hf, .inr (.inr ⟨hf, rfl, hk⟩)⟩⟩
theorem klex_total (o : KP) : ∀ (xs ys : List Tm), (∀ x ∈ xs, ∀ y ∈ ys, x ≠ y → kcmp o x y = .gt ∨ kcmp o y x = .gt) → xs.length = ys.length → xs ≠ ys → klex o xs ys = .gt ∨ klex o ys xs = .gt
 | [], [], _, _, h => absurd rfl h
 | [], y :: ys, _, h, _ => by cases h
 | x :: xs, [], _, h, _ => by cases h
 | x :: xs, y :: ys, ih, hl, h => by
   rw [klex, klex]
   by_cases e : x = y
   · subst e
     rw [if_pos rfl, if_pos rfl]
     exact klex_total o xs ys (fun a ha b hb => ih a (List.mem_cons_of_mem _ ha) b (List.mem_cons_of_mem _ hb)) (by simpa using hl) (fun e => h (by rw [e]))
   rw [if_neg e, if_neg (fun e' => e e'.symm)]
   exact ih x List.mem_cons_self y List.mem_cons_self e
theorem kgt_total {o : KP} {ar : Int → Option Nat} (ok : KOk o ar) : ∀ (n : Nat) (s t : Tm), sizeT s < n → wfT ar s → wfT ar t → vL s = [] → vL t = [] → s ≠ t → kcmp o s t = .gt ∨ kcmp o t s = .gt
 | 0, s, _, hn, _, _, _, _, _ => by omega
 | n + 1, .mk f xs, .mk g ys, hn, hs, ht, vs, vt, hne => by
   have l1 : leV (.mk g ys) (.mk f xs) := fun v => by rw [vt]; simp
   have l2 : leV (.mk f xs) (.mk g ys) := fun v => by rw [vs]; simp
   rw [kgt_iff, kgt_iff]
   rw [vL] at vs vt
   have hf : ¬ f < 0 := fun h => by rw [if_pos h] at vs; cases vs
   have hg : ¬ g < 0 := fun h => by rw [if_pos h] at vt; cases vt
   rw [if_neg hf, List.nil_append] at vs
   rw [if_neg hg, List.nil_append] at vt
   by_cases w1 : wT o (.mk g ys) < wT o (.mk f xs)
   · exact .inl ⟨hne, l1, .inl w1⟩
   by_cases w2 : wT o (.mk f xs) < wT o (.mk g ys)
   · exact .inr ⟨fun e => hne e.symm, l2, .inl w2⟩
   by_cases hfg : f = g
   · subst hfg
     have hnil : ∀ {zs : List Tm}, vLs zs = [] → ∀ z ∈ zs, vL z = [] := by
      intro zs h z hz
      refine List.eq_nil_iff_forall_not_mem.2 fun v hv => ?_
      have h1 := vLs_mem hz v
      rw [h, List.count_nil] at h1
      have h2 := List.count_pos_iff.2 hv
      omega
     rcases klex_total o xs ys (fun x hx y hy => kgt_total ok n x y (by have := sizeT_arg (f := f) hx; omega) (hs.args hx) (ht.args hy) (hnil vs x hx) (hnil vt y hy)) (hs.len ht (by omega)) (fun e => hne (by rw [e])) with h | h
     · exact .inl ⟨hne, l1, .inr ⟨by omega, by omega, .inr (.inr ⟨by omega, rfl, h⟩)⟩⟩
     exact .inr ⟨fun e => hne e.symm, l2, .inr ⟨by omega, by omega, .inr (.inr ⟨by omega, rfl, h⟩)⟩⟩
   have hp : o.pr f ≠ o.pr g := fun e => hfg (ok.inj f g (by omega) (by omega) (by rw [hs.ar (by omega)]; simp) (by rw [ht.ar (by omega)]; simp) e)
   by_cases hp2 : o.pr g < o.pr f
   · exact .inl ⟨hne, l1, .inr ⟨by omega, by omega, .inr (.inl ⟨by omega, hfg, hp2⟩)⟩⟩
   exact .inr ⟨fun e => hne e.symm, l2, .inr ⟨by omega, by omega, .inr (.inl ⟨by omega, fun e => hfg e.symm, by omega⟩)⟩⟩
theorem klex_set (o : KP) {x y : Tm} (h : kcmp o x y = .gt) : ∀ (xs : List Tm) (i : Nat), xs[i]? = some x → klex o xs (xs.set i y) = .gt
 | [], i, hi => by simp at hi
 | z :: xs, 0, hi => by
   rw [List.getElem?_cons_zero] at hi
   injection hi with hi
   subst hi
   rw [List.set_cons_zero, klex, if_neg (kcmp_ne o h)]; exact h
 | z :: xs, i + 1, hi => by
   rw [List.getElem?_cons_succ] at hi
   rw [List.set_cons_succ, klex, if_pos rfl]
   exact klex_set o h xs i hi
theorem wTs_set (o : KP) {x y : Tm} : ∀ (xs : List Tm) (i : Nat), xs[i]? = some x → wTs o (xs.set i y) + wT o x = wTs o xs + wT o y
 | [], i, hi => by simp at hi
 | z :: xs, 0, hi => by
   rw [List.getElem?_cons_zero] at hi
   injection hi with hi
   subst hi
   rw [List.set_cons_zero, wTs, wTs]; omega
 | z :: xs, i + 1, hi => by
   rw [List.getElem?_cons_succ] at hi
   rw [List.set_cons_succ, wTs, wTs]
   have := wTs_set o (y := y) xs i hi
   omega
theorem vLs_set {x y : Tm} (v : Int) : ∀ (xs : List Tm) (i : Nat), xs[i]? = some x → (vLs (xs.set i y)).count v + (vL x).count v = (vLs xs).count v + (vL y).count v
 | [], i, hi => by simp at hi
 | z :: xs, 0, hi => by
   rw [List.getElem?_cons_zero] at hi
   injection hi with hi
   subst hi
   rw [List.set_cons_zero, vLs, vLs, List.count_append, List.count_append]; omega
 | z :: xs, i + 1, hi => by
   rw [List.getElem?_cons_succ] at hi
   rw [List.set_cons_succ, vLs, vLs, List.count_append, List.count_append]
   have := vLs_set (y := y) v xs i hi
   omega
theorem kgt_set {o : KP} {ar : Int → Option Nat} {f : Int} {xs : List Tm} {i : Nat} {x y : Tm} (hw : wfT ar (.mk f xs)) (hx : xs[i]? = some x) (h : kcmp o x y = .gt) : kcmp o (.mk f xs) (.mk f (xs.set i y)) = .gt := by
 have hf : 0 ≤ f := by
  by_cases hf : f < 0
  · obtain rfl := hw.var hf
    simp at hx
  omega
 have hk := klex_set o h xs i hx
 have h1 := wTs_set o (y := y) xs i hx
 have h2 : wT o y ≤ wT o x ∧ leV y x := by
  rcases x with ⟨a, us⟩; rcases y with ⟨b, vs⟩
  rw [kgt_iff] at h
  exact ⟨by omega, h.2.1⟩
 rw [kgt_iff]
 refine ⟨fun e => (by injection e with _ e; rw [← e, klex_self] at hk; cases hk), fun v => ?_, ?_⟩
 · rw [vL, vL, if_neg (by omega), List.nil_append, List.nil_append]
   have := vLs_set (y := y) v xs i hx
   have := h2.2 v
   omega
 rw [wT, wT]
 by_cases h3 : wTs o (xs.set i y) < wTs o xs
 · left; omega
 right; exact ⟨by omega, hf, .inr (.inr ⟨hf, rfl, hk⟩)⟩
end Go.Proofs.YtbkpkahhdlomiaaGreat
namespace Go.Proofs.YtbkpkahhdlomiaaGreat
open Go.RowKit
def Box1 (b : Nat) (t : TypeId) (v : Value) (w : World) : Prop := w.heap[b]? = some (.cells #[v] t (0, 0))
theorem Box1.low {b : Nat} {t : TypeId} {v : Value} {w w' : World} (h : Box1 b t v w) (hb : Below w.heap.size w w') : Box1 b t v w' := (hb.block b (ltOf h)).trans h
theorem Box1.cell {b : Nat} {t : TypeId} {v : Value} {w : World} (h : Box1 b t v w) : w.cell? ⟨b, 0, none⟩ = some v := by rw [cell_of_row w b 0 _ _ _ h]; rfl
theorem Box1.free {b : Nat} {t : TypeId} {v : Value} {w : World} (h : Box1 b t v w) : w.frozen? ⟨b, 0, none⟩ = false := frozen_of_row w b 0 _ _ h
theorem Box1.set {b : Nat} {t : TypeId} {v : Value} {w : World} (h : Box1 b t v w) (u : Value) : Box1 b t u (w.setCell ⟨b, 0, none⟩ u) := by
 have := heap_setCell_same w b 0 _ _ u h
 exact this.trans rfl
theorem Box1.upd {b : Nat} {t : TypeId} {v : Value} {w w' : World} {F : Nat → Prop} (h : Box1 b t v w) (hu : Upd w w' F) (hF : ¬ F b) : Box1 b t v w' := (hu.block b (ltOf h) hF).trans h
def BoxN (b : Nat) (t : TypeId) (cs : Array Value) (w : World) : Prop := w.heap[b]? = some (.cells cs t (0, 0))
section
variable {b : Nat} {t : TypeId} {cs : Array Value} {w w' : World}
theorem BoxN.low (h : BoxN b t cs w) (hb : Below w.heap.size w w') : BoxN b t cs w' := (hb.block b (ltOf h)).trans h
theorem BoxN.upd {F : Nat → Prop} (h : BoxN b t cs w) (hu : Upd w w' F) (hF : ¬ F b) : BoxN b t cs w' := (hu.block b (ltOf h) hF).trans h
theorem BoxN.cell (h : BoxN b t cs w) (i : Nat) : w.cell? ⟨b, i, none⟩ = cs[i]? := cell_of_row w b i _ _ _ h
theorem BoxN.free (h : BoxN b t cs w) (i : Nat) : w.frozen? ⟨b, i, none⟩ = false := frozen_of_row w b i _ _ h
end
structure Od where
 lpo : Bool
 prec : List Int
 weights : List Int
 var : Int
def Od.val (o : Od) (vP vW : Value) : Value := .agg #[.bool o.lpo, vP, vW, .int .i64 o.var]
structure OdV (w : World) (B : Nat) (o : Od) (Ap Aw : Option Addr) (cp cw : Nat) : Prop where
 p : Rd w B (encIs o.prec) (.slice Ap o.prec.length cp)
 w : Rd w B (encIs o.weights) (.slice Aw o.weights.length cw)
theorem OdV.low {w w' : World} {B B' : Nat} {o : Od} {Ap Aw : Option Addr} {cp cw : Nat} (h : OdV w B o Ap Aw cp cw) (hb : Below B' w w') (hB : B ≤ B') : OdV w' B o Ap Aw cp cw := ⟨h.p.low hb hB, h.w.low hb hB⟩
def Knows (ar : Int → Option Nat) (o : Od) : Prop := (∀ f n, 0 ≤ f → ar f = some n → f < o.prec.length) ∧ (o.lpo = false → o.weights.length = o.prec.length)
theorem knowsK_any {ar : Int → Option Nat} {o : Od} (hk : Knows ar o) (hl : o.lpo = false) (D : Nat) : ∀ (f : Int) (xs : List Tm) (v2 : Value) (Ap Aw : Option Addr) (cp cw : Nat) (B : Nat) (w : World), sizeTs xs < D → wfT ar (.mk f xs) → OdV w B o Ap Aw cp cw → Rd w B (.sl 2 (encTms xs)) v2 → B ≤ w.heap.size →
 Calls Tryz.prog 47 #[.agg #[.bool o.lpo, .slice Ap o.prec.length cp, .slice Aw o.weights.length cw, .int .i64 o.var], .agg #[.int .i64 f, v2]] w (BoolRes true w) := by
 induction D with
 | zero => intro f xs v2 Ap Aw cp cw B w h; omega
 | succ D ih =>
 intro f xs v2 Ap Aw cp cw B w hD hw ho hr hB
 obtain ⟨A, c, rfl, hc, hn, hm⟩ := hr.tm_form
 have HR := Lh hr
 have HO := Lh ho
 have Hih := Lh ih
 have Hw := Lh hw
 have Hl := Lh hl
 clear hr ih ho hl
 by_cases hf : f < 0
 · have hx0 := hw.var hf
   have q : (((xs.length : Nat) : Int) == 0) = true := by rw [hx0]; rfl
   clear hw hx0
   go_enter Tryz.func47, Tryz.ntmps47
   go_upto_region 1 with fail
   obtain ⟨hx1, hx2, hB2, hz2⟩ := boxes2 w (.cells #[.bool o.lpo, .slice Ap o.prec.length cp, .slice Aw o.weights.length cw, .int .i64 o.var] 38) (.cells #[.int .i64 f, .slice A xs.length c] 32)
   have hx1 : BoxN w.heap.size 38 #[.bool o.lpo, .slice Ap o.prec.length cp, .slice Aw o.weights.length cw, .int .i64 o.var] _ := hx1
   have hx2 : Box2 (w.heap.size + 1) 32 (.int .i64 f) (.slice A xs.length c) _ := hx2
   generalize (w.alloc (.cells #[.bool o.lpo, .slice Ap o.prec.length cp, .slice Aw o.weights.length cw, .int .i64 o.var] 38)).alloc (.cells #[.int .i64 f, .slice A xs.length c] 32) = w1 at hx1 hx2 hB2 hz2 ⊢
   have HX1 := Lh hx1
   have HX2 := Lh hx2
   have HB2 := Lh hB2
   obtain ⟨x20, x21, -⟩ := hx2.cells
   have x10 : w1.cell? ⟨w.heap.size, 0, none⟩ = some (.bool o.lpo) := hx1.cell 0
   have x11 : w1.cell? ⟨w.heap.size, 1, none⟩ = some (.slice Ap o.prec.length cp) := hx1.cell 1
   have x12 : w1.cell? ⟨w.heap.size, 2, none⟩ = some (.slice Aw o.weights.length cw) := hx1.cell 2
   have x13 : w1.cell? ⟨w.heap.size, 3, none⟩ = some (.int .i64 o.var) := hx1.cell 3
   clear hx1 hx2 hB2
   go_wp2_with fail
   go_ret
   exact ⟨rfl, HB2.out⟩
 have hf0 : 0 ≤ f := by omega
 have hk1 := hk.1 f _ hf0 (hw.ar hf0)
 have hk2 : ¬ o.weights.length < o.prec.length := (by have := hk.2 Hl.out; omega)
 clear hw
 go_enter Tryz.func47, Tryz.ntmps47
 go_upto_region 1 with fail
 obtain ⟨hx1, hx2, hB2, hz2⟩ := boxes2 w (.cells #[.bool o.lpo, .slice Ap o.prec.length cp, .slice Aw o.weights.length cw, .int .i64 o.var] 38) (.cells #[.int .i64 f, .slice A xs.length c] 32)
 have hx1 : BoxN w.heap.size 38 #[.bool o.lpo, .slice Ap o.prec.length cp, .slice Aw o.weights.length cw, .int .i64 o.var] _ := hx1
 have hx2 : Box2 (w.heap.size + 1) 32 (.int .i64 f) (.slice A xs.length c) _ := hx2
 generalize (w.alloc (.cells #[.bool o.lpo, .slice Ap o.prec.length cp, .slice Aw o.weights.length cw, .int .i64 o.var] 38)).alloc (.cells #[.int .i64 f, .slice A xs.length c] 32) = w1 at hx1 hx2 hB2 hz2 ⊢
 have HX1 := Lh hx1
 have HX2 := Lh hx2
 have HB2 := Lh hB2
 obtain ⟨x20, x21, -⟩ := hx2.cells
 have x10 : w1.cell? ⟨w.heap.size, 0, none⟩ = some (.bool o.lpo) := hx1.cell 0
 have x11 : w1.cell? ⟨w.heap.size, 1, none⟩ = some (.slice Ap o.prec.length cp) := hx1.cell 1
 have x12 : w1.cell? ⟨w.heap.size, 2, none⟩ = some (.slice Aw o.weights.length cw) := hx1.cell 2
 have x13 : w1.cell? ⟨w.heap.size, 3, none⟩ = some (.int .i64 o.var) := hx1.cell 3
 clear hx1 hx2 hB2
 go_wp2_with fail
 go_loopw [27] (fun i wr => ∃ k : Nat, k ≤ xs.length ∧ i = .int .i64 k ∧ Below w1.heap.size w1 wr) (fun i _ => xs.length - (intOf i).toNat)
 case atStart => exact ⟨0, Nat.zero_le _, rfl, Below.refl _ _⟩
 obtain ⟨k, hkl, rfl, hbel⟩ := hrel
 have hzr := hbel.size
 have hlo : w.heap.size + 1 < wr.heap.size := by omega
 have hlo1 : w.heap.size < wr.heap.size := by omega
 have Hbr := Lh (HB2.out.trans (hbel.mono (by omega)))
 have hx1 := HX1.out.low hbel
 obtain ⟨x20, x21, -⟩ := (HX2.out.low hbel).cells
 have x10 : wr.cell? ⟨w.heap.size, 0, none⟩ = some (.bool o.lpo) := hx1.cell 0
 have x11 : wr.cell? ⟨w.heap.size, 1, none⟩ = some (.slice Ap o.prec.length cp) := hx1.cell 1
 have x12 : wr.cell? ⟨w.heap.size, 2, none⟩ = some (.slice Aw o.weights.length cw) := hx1.cell 2
 have x13 : wr.cell? ⟨w.heap.size, 3, none⟩ = some (.int .i64 o.var) := hx1.cell 3
 have Hbel := Lh hbel
 clear hbel hx1
 by_cases hlt : k < xs.length
 · obtain ⟨ab, off, f1, us, B1, d1, rfl, hxk, hab, k0, k1, hrd1⟩ := (HR.out.low Hbr.out hB).tm_at hlt
   have hs1 := sizeTs_mem hlt
   rw [hxk] at hs1
   simp only [sizeT] at hs1
   have hwx := Hw.out.args (List.getElem_mem hlt)
   rw [hxk] at hwx
   have hcl := fun (w' : World) (hb : Below wr.heap.size wr w') => Hih.out f1 us (.slice B1 us.length d1) Ap Aw cp cw B w' (by omega) hwx (HO.out.low (Hbr.out.trans (hb.mono Hbr.out.size)) hB) (hrd1.low hb (by omega)) (by have := hb.size; omega)
   have Hcl := Lh hcl
   clear hcl hxk hrd1 hwx
   go_wp2_with fail
   refine (Hcl.out _ (below_box wr _)).mono ?_
   rintro e w6 ⟨rfl, hb6⟩
   have Hb6 := Lh ((below_box wr _).trans (hb6.mono (by simp)))
   clear hb6
   go_wp2_with fail
   go_roundw
   case rel => exact ⟨k + 1, by omega, by go_num, Hbel.out.trans (Hb6.out.mono hzr)⟩
   case measure => simp [intOf]; omega
 go_wp2_with fail
 go_ret
 exact ⟨rfl, Hbr.out⟩
theorem knowsL_any {ar : Int → Option Nat} {o : Od} (hk : Knows ar o) (hl : o.lpo = true) (D : Nat) : ∀ (f : Int) (xs : List Tm) (v2 : Value) (Ap Aw : Option Addr) (cp cw : Nat) (B : Nat) (w : World), sizeTs xs < D → wfT ar (.mk f xs) → OdV w B o Ap Aw cp cw → Rd w B (.sl 2 (encTms xs)) v2 → B ≤ w.heap.size →
 Calls Tryz.prog 44 #[.agg #[.bool o.lpo, .slice Ap o.prec.length cp, .slice Aw o.weights.length cw, .int .i64 o.var], .agg #[.int .i64 f, v2]] w (BoolRes true w) := by
 induction D with
 | zero => intro f xs v2 Ap Aw cp cw B w h; omega
 | succ D ih =>
 intro f xs v2 Ap Aw cp cw B w hD hw ho hr hB
 obtain ⟨A, c, rfl, hc, hn, hm⟩ := hr.tm_form
 have HR := Lh hr
 have HO := Lh ho
 have Hih := Lh ih
 have Hw := Lh hw
 have Hl := Lh hl
 clear hr ih ho hl
 by_cases hf : f < 0
 · have hx0 := hw.var hf
   have q : (((xs.length : Nat) : Int) == 0) = true := by rw [hx0]; rfl
   clear hw hx0
   go_enter Tryz.func44, Tryz.ntmps44
   go_upto_region 1 with fail
   obtain ⟨hx1, hx2, hB2, hz2⟩ := boxes2 w (.cells #[.bool o.lpo, .slice Ap o.prec.length cp, .slice Aw o.weights.length cw, .int .i64 o.var] 38) (.cells #[.int .i64 f, .slice A xs.length c] 32)
   have hx1 : BoxN w.heap.size 38 #[.bool o.lpo, .slice Ap o.prec.length cp, .slice Aw o.weights.length cw, .int .i64 o.var] _ := hx1
   have hx2 : Box2 (w.heap.size + 1) 32 (.int .i64 f) (.slice A xs.length c) _ := hx2
   generalize (w.alloc (.cells #[.bool o.lpo, .slice Ap o.prec.length cp, .slice Aw o.weights.length cw, .int .i64 o.var] 38)).alloc (.cells #[.int .i64 f, .slice A xs.length c] 32) = w1 at hx1 hx2 hB2 hz2 ⊢
   have HX1 := Lh hx1
   have HX2 := Lh hx2
   have HB2 := Lh hB2
   obtain ⟨x20, x21, -⟩ := hx2.cells
   have x10 : w1.cell? ⟨w.heap.size, 0, none⟩ = some (.bool o.lpo) := hx1.cell 0
   have x11 : w1.cell? ⟨w.heap.size, 1, none⟩ = some (.slice Ap o.prec.length cp) := hx1.cell 1
   have x12 : w1.cell? ⟨w.heap.size, 2, none⟩ = some (.slice Aw o.weights.length cw) := hx1.cell 2
   have x13 : w1.cell? ⟨w.heap.size, 3, none⟩ = some (.int .i64 o.var) := hx1.cell 3
   clear hx1 hx2 hB2
   go_wp2_with fail
   go_ret
   exact ⟨rfl, HB2.out⟩
 have hf0 : 0 ≤ f := by omega
 have hk1 := hk.1 f _ hf0 (hw.ar hf0)
 skip
 clear hw
 go_enter Tryz.func44, Tryz.ntmps44
 go_upto_region 1 with fail
 obtain ⟨hx1, hx2, hB2, hz2⟩ := boxes2 w (.cells #[.bool o.lpo, .slice Ap o.prec.length cp, .slice Aw o.weights.length cw, .int .i64 o.var] 38) (.cells #[.int .i64 f, .slice A xs.length c] 32)
 have hx1 : BoxN w.heap.size 38 #[.bool o.lpo, .slice Ap o.prec.length cp, .slice Aw o.weights.length cw, .int .i64 o.var] _ := hx1
 have hx2 : Box2 (w.heap.size + 1) 32 (.int .i64 f) (.slice A xs.length c) _ := hx2
 generalize (w.alloc (.cells #[.bool o.lpo, .slice Ap o.prec.length cp, .slice Aw o.weights.length cw, .int .i64 o.var] 38)).alloc (.cells #[.int .i64 f, .slice A xs.length c] 32) = w1 at hx1 hx2 hB2 hz2 ⊢
 have HX1 := Lh hx1
 have HX2 := Lh hx2
 have HB2 := Lh hB2
 obtain ⟨x20, x21, -⟩ := hx2.cells
 have x10 : w1.cell? ⟨w.heap.size, 0, none⟩ = some (.bool o.lpo) := hx1.cell 0
 have x11 : w1.cell? ⟨w.heap.size, 1, none⟩ = some (.slice Ap o.prec.length cp) := hx1.cell 1
 have x12 : w1.cell? ⟨w.heap.size, 2, none⟩ = some (.slice Aw o.weights.length cw) := hx1.cell 2
 have x13 : w1.cell? ⟨w.heap.size, 3, none⟩ = some (.int .i64 o.var) := hx1.cell 3
 clear hx1 hx2 hB2
 go_wp2_with fail
 go_loopw [23] (fun i wr => ∃ k : Nat, k ≤ xs.length ∧ i = .int .i64 k ∧ Below w1.heap.size w1 wr) (fun i _ => xs.length - (intOf i).toNat)
 case atStart => exact ⟨0, Nat.zero_le _, rfl, Below.refl _ _⟩
 obtain ⟨k, hkl, rfl, hbel⟩ := hrel
 have hzr := hbel.size
 have hlo : w.heap.size + 1 < wr.heap.size := by omega
 have hlo1 : w.heap.size < wr.heap.size := by omega
 have Hbr := Lh (HB2.out.trans (hbel.mono (by omega)))
 have hx1 := HX1.out.low hbel
 obtain ⟨x20, x21, -⟩ := (HX2.out.low hbel).cells
 have x10 : wr.cell? ⟨w.heap.size, 0, none⟩ = some (.bool o.lpo) := hx1.cell 0
 have x11 : wr.cell? ⟨w.heap.size, 1, none⟩ = some (.slice Ap o.prec.length cp) := hx1.cell 1
 have x12 : wr.cell? ⟨w.heap.size, 2, none⟩ = some (.slice Aw o.weights.length cw) := hx1.cell 2
 have x13 : wr.cell? ⟨w.heap.size, 3, none⟩ = some (.int .i64 o.var) := hx1.cell 3
 have Hbel := Lh hbel
 clear hbel hx1
 by_cases hlt : k < xs.length
 · obtain ⟨ab, off, f1, us, B1, d1, rfl, hxk, hab, k0, k1, hrd1⟩ := (HR.out.low Hbr.out hB).tm_at hlt
   have hs1 := sizeTs_mem hlt
   rw [hxk] at hs1
   simp only [sizeT] at hs1
   have hwx := Hw.out.args (List.getElem_mem hlt)
   rw [hxk] at hwx
   have hcl := fun (w' : World) (hb : Below wr.heap.size wr w') => Hih.out f1 us (.slice B1 us.length d1) Ap Aw cp cw B w' (by omega) hwx (HO.out.low (Hbr.out.trans (hb.mono Hbr.out.size)) hB) (hrd1.low hb (by omega)) (by have := hb.size; omega)
   have Hcl := Lh hcl
   clear hcl hxk hrd1 hwx
   go_wp2_with fail
   refine (Hcl.out _ (below_box wr _)).mono ?_
   rintro e w6 ⟨rfl, hb6⟩
   have Hb6 := Lh ((below_box wr _).trans (hb6.mono (by simp)))
   clear hb6
   go_wp2_with fail
   go_roundw
   case rel => exact ⟨k + 1, by omega, by go_num, Hbel.out.trans (Hb6.out.mono hzr)⟩
   case measure => simp [intOf]; omega
 go_wp2_with fail
 go_ret
 exact ⟨rfl, Hbr.out⟩
theorem Own.rdP1 {w : World} {base size : Nat} {e : TypeId} {v : Value} {rows : List (List Value)} (h : Own w base e size v rows) (hn : rows.length ≤ 140737488351232) : RdP w (fun b => v.ownBlock = some b) (.sl size (rows.map fun r => r.map .leaf)) v := by
 rcases (h.rd hn).sl_inv with ⟨h0, A, rfl⟩ | ⟨b, off, c, us, rfl, h1, h2, h3, h4, h5, h6⟩
 · rw [h0]
   cases A with
   | none => exact .none_ _
   | some a => exact .empty _ a
 refine .row size b off c _ us (fun r hr => ?_) h1 h2 h3 rfl h4 h5 (fun k hk j hj => ?_)
 · obtain ⟨r0, hr0, rfl⟩ := List.mem_map.1 hr
   rw [List.length_map]; exact h.2 r0 hr0
 have h7 := h6 k hk j hj
 simp only [List.getElem_map] at h7 ⊢
 rw [h7.leaf_inv]
 exact .leaf _
theorem icells_rdP {w : World} {base : Nat} {v : Value} {l : List Int} (h : Own w base 3 1 v (icells l)) (hl : l.length ≤ 100000000) : RdP w (fun b => v.ownBlock = some b) (encIs l) v := by
 have := h.rdP1 (by rw [icells_len]; omega)
 unfold encIs
 have e : ((icells l).map fun r => r.map Tr.leaf) = l.map fun n => [Tr.leaf (.int .i64 n)] := by simp [icells]
 rwa [e] at this
abbrev PL := List (Tm × List Int)
def posOf : List Tm → Nat → List Int
 | [], _ => []
 | x :: xs, n => (n : Int) :: posOf xs (n + sizeT x)
mutual
def layP : Tm → Nat → PL
 | .mk f xs, n => (.mk f xs, posOf xs (n + 1)) :: layPs xs (n + 1)
def layPs : List Tm → Nat → PL
 | [], _ => []
 | x :: xs, n => layP x n ++ layPs xs (n + sizeT x)
end
mutual
theorem layP_len : ∀ (t : Tm) (n : Nat), (layP t n).length = sizeT t
 | .mk f xs, n => by rw [layP, List.length_cons, layPs_len xs, sizeT]
theorem layPs_len : ∀ (xs : List Tm) (n : Nat), (layPs xs n).length = sizeTs xs
 | [], n => by rw [layPs, sizeTs]; rfl
 | x :: xs, n => by rw [layPs, List.length_append, layP_len x, layPs_len xs, sizeTs]
end
theorem posOf_app : ∀ (xs : List Tm) (x : Tm) (n : Nat), posOf (xs ++ [x]) n = posOf xs n ++ [((n + sizeTs xs : Nat) : Int)]
 | [], x, n => by simp [posOf, sizeTs]
 | y :: ys, x, n => by rw [List.cons_append, posOf, posOf, posOf_app ys, sizeTs, List.cons_append, show n + sizeT y + sizeTs ys = n + (sizeT y + sizeTs ys) by omega]
theorem layPs_app : ∀ (xs : List Tm) (x : Tm) (n : Nat), layPs (xs ++ [x]) n = layPs xs n ++ layP x (n + sizeTs xs)
 | [], x, n => by simp [layPs, sizeTs]
 | y :: ys, x, n => by rw [List.cons_append, layPs, layPs, layPs_app ys, sizeTs, List.append_assoc, show n + sizeT y + sizeTs ys = n + (sizeT y + sizeTs ys) by omega]
theorem posOf_take {xs : List Tm} {k : Nat} (h : k < xs.length) (n : Nat) : posOf (xs.take (k + 1)) n = posOf (xs.take k) n ++ [((n + sizeTs (xs.take k) : Nat) : Int)] := by
 rw [List.take_succ_eq_append_getElem h, posOf_app]
theorem layPs_take {xs : List Tm} {k : Nat} (h : k < xs.length) (n : Nat) : layPs (xs.take (k + 1)) n = layPs (xs.take k) n ++ layP xs[k] (n + sizeTs (xs.take k)) := by
 rw [List.take_succ_eq_append_getElem h, layPs_app]
theorem posOf_len : ∀ (xs : List Tm) (n : Nat), (posOf xs n).length = xs.length
 | [], n => rfl
 | x :: xs, n => by rw [posOf, List.length_cons, posOf_len xs, List.length_cons]
def RowsP (w : World) (P : Nat → Prop) (rows : List (List Value)) (L : PL) : Prop :=
 rows.length = L.length ∧ ∀ k (h : k < rows.length) (h2 : k < L.length), ∃ A1 c1 A2 c2, rows[k] = [.int .i64 L[k].1.fn, .slice A1 L[k].1.args.length c1, .slice A2 L[k].2.length c2] ∧
  RdP w P (.sl 2 (encTms L[k].1.args)) (.slice A1 L[k].1.args.length c1) ∧ RdP w P (encIs L[k].2) (.slice A2 L[k].2.length c2)
theorem RowsP.nil (w : World) (P : Nat → Prop) : RowsP w P [] [] := ⟨rfl, fun k h => by simp at h⟩
theorem RowsP.upd {w w' : World} {P F : Nat → Prop} {rows : List (List Value)} {L : PL} (h : RowsP w P rows L) (hu : Upd w w' F) (hF : ∀ b, P b → b < w.heap.size → ¬ F b) : RowsP w' P rows L :=
 ⟨h.1, fun k h1 h2 => by
  obtain ⟨A1, c1, A2, c2, he, hr1, hr2⟩ := h.2 k h1 h2
  exact ⟨A1, c1, A2, c2, he, hr1.upd hu hF, hr2.upd hu hF⟩⟩
theorem RowsP.more {w : World} {P P' : Nat → Prop} {rows : List (List Value)} {L : PL} (h : RowsP w P rows L) (hP : ∀ b, P b → b < w.heap.size → P' b) : RowsP w P' rows L :=
 ⟨h.1, fun k h1 h2 => by
  obtain ⟨A1, c1, A2, c2, he, hr1, hr2⟩ := h.2 k h1 h2
  exact ⟨A1, c1, A2, c2, he, hr1.more hP, hr2.more hP⟩⟩
theorem RowsP.app {w : World} {P : Nat → Prop} {r1 r2 : List (List Value)} {L1 L2 : PL} (h1 : RowsP w P r1 L1) (h2 : RowsP w P r2 L2) : RowsP w P (r1 ++ r2) (L1 ++ L2) := by
 refine ⟨by rw [List.length_append, List.length_append, h1.1, h2.1], fun k k1 k2 => ?_⟩
 by_cases hk : k < r1.length
 · have hk2 : k < L1.length := by rw [← h1.1]; exact hk
   obtain ⟨A1, c1, A2, c2, he, h⟩ := h1.2 k hk hk2
   refine ⟨A1, c1, A2, c2, ?_⟩
   rw [List.getElem_append_left hk, List.getElem_append_left hk2]
   exact ⟨he, h⟩
 have hk2 : ¬ k < L1.length := by rw [← h1.1]; exact hk
 rw [List.length_append] at k1 k2
 obtain ⟨A1, c1, A2, c2, he, h⟩ := h2.2 (k - r1.length) (by omega) (by have := h1.1; omega)
 refine ⟨A1, c1, A2, c2, ?_⟩
 have e : k - L1.length = k - r1.length := by rw [h1.1]
 rw [List.getElem_append_right (by omega), List.getElem_append_right (by omega)]
 simp only [e]
 exact ⟨he, h⟩
theorem RowsP.one {w : World} {P : Nat → Prop} {f : Int} {xs : List Tm} {is : List Int} {A1 A2 : Option Addr} {c1 c2 : Nat} (h1 : RdP w P (.sl 2 (encTms xs)) (.slice A1 xs.length c1)) (h2 : RdP w P (encIs is) (.slice A2 is.length c2)) :
 RowsP w P [[.int .i64 f, .slice A1 xs.length c1, .slice A2 is.length c2]] [(.mk f xs, is)] := by
 refine ⟨rfl, fun k k1 k2 => ?_⟩
 have : k = 0 := by simp at k1; omega
 subst this
 exact ⟨A1, c1, A2, c2, rfl, h1, h2⟩
def PaR (B base : Nat) (t : Tm) (rows : List (List Value)) (v : Value) (w : World) (e : Ending) (w' : World) : Prop :=
 ∃ v' new, e = .returned v' ∧ Own w' base 134 3 v' (rows ++ new) ∧ Upd w w' (fun b => v.ownBlock = some b) ∧ (v'.ownBlock = v.ownBlock ∨ ∀ g, v'.ownBlock = some g → w.heap.size ≤ g) ∧
   RowsP w' (fun b => b < B ∨ (w.heap.size ≤ b ∧ v'.ownBlock ≠ some b)) new (layP t rows.length)
theorem partT : SliceTy Tryz.prog 117 134 3 56 := sliceTy Tryz.underlying117 (by kernel_rfl : (Tryz.prog.info? 134).map (fun i => (i.zero, i.size, i.bytes)) = some (some (.agg #[.int .i64 0, .slice none 0 0, .slice none 0 0]), 3, 56)) rfl (by decide)
theorem icells_form {w : World} {base : Nat} {v : Value} {l : List Int} (h : Own w base 3 1 v (icells l)) : ∃ A c, v = .slice A l.length c := by
 obtain ⟨A, c, hv, -, -⟩ := h.form
 rw [icells_len] at hv
 exact ⟨A, c, hv⟩
theorem Own.at2 {w : World} {base g n c k j size : Nat} {e : TypeId} {rows : List (List Value)} (h : Own w base e size (.slice (some ⟨g, 0, none⟩) n c) rows) (hk : k < rows.length) (hj : j < size) :
 w.cell? ⟨g, k * size + j, none⟩ = some (rows[k][j]'(by rw [h.2 _ (List.getElem_mem hk)]; exact hj)) ∧ w.frozen? ⟨g, k * size + j, none⟩ = false ∧ base ≤ g ∧ g < w.heap.size := by
 obtain ⟨g', hA, hb, hg, hc, hf⟩ := h.row_at hk (Nat.lt_of_le_of_lt (Nat.zero_le _) hj)
 injection hA with hA
 injection hA with hA _ _
 subst hA
 exact ⟨hc j hj, hf j hj, hb, hg⟩
theorem Own.atRow {w : World} {base g n c k j size : Nat} {e : TypeId} {rows : List (List Value)} {row : List Value} {x : Value} (h : Own w base e size (.slice (some ⟨g, 0, none⟩) n c) rows) (hr : rows[k]? = some row) (hx : row[j]? = some x) :
 w.cell? ⟨g, k * size + j, none⟩ = some x ∧ w.frozen? ⟨g, k * size + j, none⟩ = false := by
 obtain ⟨hk, hr⟩ := List.getElem?_eq_some_iff.1 hr
 obtain ⟨hj, hx⟩ := List.getElem?_eq_some_iff.1 hx
 have hl := h.2 _ (List.getElem_mem hk)
 rw [hr] at hl
 obtain ⟨h1, h2, -, -⟩ := h.at2 hk (by omega : j < size)
 refine ⟨?_, h2⟩
 rw [h1]
 simp only [hr, hx]
theorem Own.setRow {w : World} {base g n c k j size : Nat} {e : TypeId} {rows : List (List Value)} {row : List Value} (h : Own w base e size (.slice (some ⟨g, 0, none⟩) n c) rows) (hr : rows[k]? = some row) (hj : j < size) (u : Value) :
 Own (w.setCell ⟨g, k * size + j, none⟩ u) base e size (.slice (some ⟨g, 0, none⟩) n c) (rows.set k (row.set j u)) := by
 obtain ⟨hk, hr⟩ := List.getElem?_eq_some_iff.1 hr
 have := h.setPart hk hj u
 rwa [hr] at this
theorem mid_at (a : List (List Value)) (x y z : Value) (b : List (List Value)) : ((a ++ [[x, y, z]]) ++ b)[a.length]? = some [x, y, z] := by simp
theorem mid_set (a : List (List Value)) (x y z u : Value) (b : List (List Value)) : ((a ++ [[x, y, z]]) ++ b).set a.length ([x, y, z].set 2 u) = (a ++ [[x, y, u]]) ++ b := by simp
theorem parts_any (B base : Nat) (hBb : B ≤ base) (D : Nat) : ∀ (f : Int) (xs : List Tm) (v2 v : Value) (rows : List (List Value)) (w : World), sizeTs xs < D → rows.length + sizeTs xs ≤ 2000000 → Rd w B (.sl 2 (encTms xs)) v2 → Own w base 134 3 v rows → base ≤ w.heap.size →
 Calls Tryz.prog 76 #[.agg #[.int .i64 f, v2], v] w (PaR B base (.mk f xs) rows v w) := by
 induction D with
 | zero => intro f xs v2 v rows w h; omega
 | succ D ih =>
 intro f xs v2 v rows w hD hz hr ho hb
 obtain ⟨A, c, rfl, hc, hn, hm⟩ := hr.tm_form
 obtain ⟨Av, cv, rfl, -, -⟩ := ho.form
 have hol := ho.lt
 have hlz := len_le_sizeTs xs
 have HR := Lh hr
 have HO := Lh ho
 have Hih := Lh ih
 clear hr ho ih
 go_enter Tryz.func76, Tryz.ntmps76
 go_upto_region 2 with fail
 obtain ⟨hx1, hB1, hz1⟩ := boxes1 w (.cells #[.int .i64 f, .slice A xs.length c] 32)
 have hx1 : Box2 w.heap.size 32 (.int .i64 f) (.slice A xs.length c) _ := hx1
 generalize w.alloc (.cells #[.int .i64 f, .slice A xs.length c] 32) = w1 at hx1 hB1 hz1 ⊢
 have HX1 := Lh hx1
 have HB1 := Lh hB1
 have hl1 : w.heap.size < w1.heap.size := by omega
 have HO1 := Lh (HO.out.low hB1)
 obtain ⟨x10, x11, -⟩ := hx1.cells
 clear hx1 hB1 hz1
 go_upto_region 3 with (at_builtin
                        refine wpList_push _ rfl (.tmp 10) (.tmp 13) _ rfl partT (base := base) (v := .slice Av rows.length cv) (rows := rows) rfl (HO1.out.alloc _) (g := w1.heap.size) (cells := #[.int .i64 f, .slice A xs.length c, .slice none 0 0]) rfl (heap_alloc_new w1 _) rfl (by intro y hy; simp at hy; rcases hy with rfl | rfl | rfl <;> rfl) (by omega) (by unfold maxLen; omega) (by simp; omega) ?_
                        intro v3 w3 hown hup hat
                        have Hown := Lh hown
                        have Hup := Lh ((Upd.low (below_box w1 (.cells #[.int .i64 f, .slice A xs.length c, .slice none 0 0] 134)) (fun k => (Value.slice Av rows.length cv).ownBlock = some k)).trans hup (fun i hi => .inl hi))
                        have hz3 := hup.size
                        rw [alloc_size] at hz3
                        have Hat := Lh hat
                        clear hown hup hat)
 have hb3 := HX1.out.upd Hup.out (fun e => by have := (hol _ e).2; omega)
 have HX3 := Lh hb3
 obtain ⟨y10, y11, -⟩ := hb3.cells
 have Hup0 := Lh ((Upd.low HB1.out (fun k => (Value.slice Av rows.length cv).ownBlock = some k)).trans Hup.out (fun i hi => .inl hi))
 have hl3 : w.heap.size < w3.heap.size := by have := Hup.out.size; omega
 have hat3 : v3.ownBlock = (Value.slice Av rows.length cv).ownBlock ∨ ∀ g, v3.ownBlock = some g → w.heap.size ≤ g := by
  rcases Hat.out with h | h
  · exact .inl h
  right
  intro g hg
  rw [h] at hg
  injection hg with hg
  rw [alloc_size] at hg
  omega
 have Hat3 := Lh hat3
 have HOL := Lh hol
 clear hb3 x10 x11 hat3 hol
 go_wp2_with fail
 clear y10 y11
 go_loopw [1, 18] (fun vl i wr => ∃ (k : Nat) (u : Value) (rest : List (List Value)), k ≤ xs.length ∧ i = .int .i64 k ∧ Own wr base 134 3 vl ((rows ++ [[.int .i64 f, .slice A xs.length c, u]]) ++ rest) ∧ Own wr w.heap.size 3 1 u (icells (posOf (xs.take k) (rows.length + 1))) ∧
  RowsP wr (fun b => b < B ∨ (w.heap.size ≤ b ∧ vl.ownBlock ≠ some b ∧ u.ownBlock ≠ some b)) rest (layPs (xs.take k) (rows.length + 1)) ∧ Box2 w.heap.size 32 (.int .i64 f) (.slice A xs.length c) wr ∧
  Upd w wr (fun b => (Value.slice Av rows.length cv).ownBlock = some b) ∧ (vl.ownBlock = (Value.slice Av rows.length cv).ownBlock ∨ ∀ g, vl.ownBlock = some g → w.heap.size ≤ g)) (fun _ i _ => xs.length - (intOf i).toNat)
 case atStart => exact ⟨0, .slice none 0 0, [], Nat.zero_le _, rfl, by simpa using Hown.out, by simpa [posOf, icells] using Own.nil w3 w.heap.size 3 1, by simpa [layPs] using RowsP.nil w3 _, HX3.out, Hup0.out, Hat3.out⟩
 obtain ⟨k, u, rest, hkl, rfl, hown, hou, hrs, hbx, hur, hat⟩ := hrel
 have hzr := hur.size
 have hlr := hbx.lt
 have hRl := hrs.1
 rw [layPs_len] at hRl
 have htk := sizeTs_take_le xs k
 obtain ⟨Al, cl, hvl, -, -⟩ := hown.form
 have htot : ((rows ++ [[.int .i64 f, .slice A xs.length c, u]]) ++ rest).length = rows.length + 1 + sizeTs (xs.take k) := by
  rw [List.length_append, List.length_append, List.length_singleton]; omega
 obtain ⟨n, hnn⟩ : ∃ n, rows.length + 1 + sizeTs (xs.take k) = n := ⟨_, rfl⟩
 rw [hnn] at htot
 rw [htot] at hvl
 subst hvl
 have hlast : rows.length < ((rows ++ [[.int .i64 f, .slice A xs.length c, u]]) ++ rest).length := by omega
 obtain ⟨g, hA, hbg, hgl, -, -⟩ := hown.row_at hlast (by omega)
 subst hA
 obtain ⟨au, cu, hu⟩ := icells_form hou
 rw [posOf_len, List.length_take, Nat.min_eq_left hkl] at hu
 have hne : ∀ b, u.ownBlock = some b → b ≠ g := fun b hb e => by
  subst e
  exact hown.ne_own hou (by decide) b rfl hb
 have hub := hou.lt
 by_cases hlt : k < xs.length
 · obtain ⟨c2, -⟩ := hown.atRow (mid_at rows _ _ _ rest) (j := 2) rfl
   have hxs := hur.keepRd HR.out (by omega) (by intro b hb; have := (HOL.out b hb).1; omega)
   obtain ⟨ab, off, f1, us, B1, d1, hA2, hxk, hab, k0, k1, hrd1⟩ := hxs.tm_at hlt
   subst hA2
   have hs1 := sizeTs_mem hlt
   have hp1 := posOf_take hlt (rows.length + 1)
   have hL1 := layPs_take hlt (rows.length + 1)
   have hs2 := sizeTs_take hlt
   have hs3 := sizeTs_take_le xs (k + 1)
   rw [hxk] at hs1 hL1 hs2
   rw [hnn] at hp1 hL1
   simp only [sizeT] at hs1 hs2
   have Hown' := Lh hown
   have Hou := Lh hou
   have Hrs := Lh hrs
   have Hbx := Lh hbx
   have Hur := Lh hur
   have Hatl := Lh hat
   have Hne := Lh hne
   have Hub := Lh hub
   have Htot := Lh htot
   have Hlast := Lh hlast
   have Hp1 := Lh hp1
   have HL1 := Lh hL1
   have Hrd1 := Lh hrd1
   have Hu := Lh hu
   have C2 := Lh c2
   clear hown hou hrs hbx hur hat hne hub htot hlast hp1 hL1 hrd1 hxs hxk hu c2
   have hq1 : rows.length < n := by omega
   have hq2 : ¬ ((n : Int) ≤ (rows.length : Int)) := by omega
   have hnz : n + sizeTs us + 1 ≤ rows.length + 1 + sizeTs xs := by omega
   have Hnn := Lh hnn
   have Hs2 := Lh hs2
   clear hnn hs2
   go_upto_region 6 with fail
   obtain ⟨hxa, hBa, hza⟩ := boxes1 wr (.cells #[.int .i64 f1, .slice B1 us.length d1] 32)
   have hxa : Box2 wr.heap.size 32 (.int .i64 f1) (.slice B1 us.length d1) _ := hxa
   generalize wr.alloc (.cells #[.int .i64 f1, .slice B1 us.length d1] 32) = wa at hxa hBa hza ⊢
   have HXa := Lh hxa
   have HBa := Lh hBa
   have hla : wr.heap.size < wa.heap.size := by omega
   have hga : g < wa.heap.size := by omega
   have c2 := (hBa.cell (p := ⟨g, rows.length * 3 + 2, none⟩) (show g < wr.heap.size by omega)).trans C2.out
   have Hoa := Lh (Hou.out.low hBa)
   clear hxa hBa hza
   go_upto_region 7 with (at_builtin
                          refine wpList_push _ rfl (.tmp 28) (.tmp 31) _ rfl nsT (base := w.heap.size) (v := u) (rows := icells (posOf (xs.take k) (rows.length + 1))) rfl (Hoa.out.alloc _) (g := wa.heap.size) (cells := #[.int .i64 (n : Nat)]) rfl (heap_alloc_new wa _) rfl (by intro y hy; simp at hy; rcases hy with rfl; rfl) (by rw [icells_len, posOf_len, List.length_take]; omega) (by rw [icells_len, posOf_len, List.length_take]; unfold maxLen; omega) (by simp; omega) ?_
                          intro u5 w5 hown5 hup5 hat5
                          have hown5 : Own w5 w.heap.size 3 1 u5 (icells (posOf (xs.take (k + 1)) (rows.length + 1))) := by rw [Hp1.out, icells_push]; exact hown5
                          obtain ⟨a5, c5, hu5⟩ := icells_form hown5
                          rw [posOf_len, List.length_take, Nat.min_eq_left (by omega : k + 1 ≤ xs.length)] at hu5
                          subst hu5
                          have hup5 := (Upd.low (below_box wa (.cells #[.int .i64 (n : Nat)] 3)) (fun b => u.ownBlock = some b)).trans hup5 (fun i hi => .inl hi)
                          have hg5 : ¬ u.ownBlock = some g := fun e => Hne.out g e rfl
                          have hO5 := (Hown'.out.low HBa.out).upd hup5 (fun b hb => by injection hb with hb; subst hb; exact hg5)
                          obtain ⟨q2, f2⟩ := hO5.atRow (mid_at rows _ _ _ rest) (j := 2) rfl
                          have Hown5 := Lh hown5
                          have Hup5 := Lh hup5
                          have Hat5 := Lh hat5
                          have HO5 := Lh hO5
                          have hz5 := hup5.size
                          have hg5l : g < w5.heap.size := by omega
                          clear hown5 hup5 hat5 hO5 hg5)
   clear c2 q2 f2
   obtain ⟨u5, hu5⟩ : ∃ u5, Value.slice a5 (k + 1) c5 = u5 := ⟨_, rfl⟩
   rw [hu5] at Hown5 Hat5 ⊢
   have h5o := Hown5.out.lt
   have hg5 : u5.ownBlock ≠ some g := HO5.out.ne_own Hown5.out (by decide) g rfl
   have hO6 := HO5.out.setRow (mid_at rows _ _ _ rest) (j := 2) (by omega) u5
   rw [mid_set] at hO6
   have hup6 : Upd wr (w5.setCell ⟨g, rows.length * 3 + 2, none⟩ u5) (fun b => u.ownBlock = some b ∨ b = g) :=
    ((Upd.low HBa.out (fun b => u.ownBlock = some b ∨ b = g)).trans Hup5.out (fun i hi => .inl (.inl hi))).setCell _ _ (.inl (.inr rfl))
   have hupa : Upd wa (w5.setCell ⟨g, rows.length * 3 + 2, none⟩ u5) (fun b => u.ownBlock = some b ∨ b = g) := (Hup5.out.more (fun i hi => .inl (.inl hi))).setCell _ _ (.inl (.inr rfl))
   have hbx6 := HXa.out.upd hupa (by
    rintro (e | e)
    · have := (Hub.out _ e).2; omega
    omega)
   have hO56 := Hown5.out.upd (upd_set (w := w5) (b := g) (o := rows.length * 3 + 2) u5) (by rintro b hb rfl; exact hg5 hb)
   have hz6 : (w5.setCell ⟨g, rows.length * 3 + 2, none⟩ u5).heap.size = w5.heap.size := by simp
   generalize w5.setCell ⟨g, rows.length * 3 + 2, none⟩ u5 = w6 at hO6 hup6 hbx6 hO56 hz6 hupa ⊢
   have hbg : w.heap.size ≠ g := fun e => by
    have := hO6.ne_cells (b := w.heap.size) (cs := #[.int .i64 f, .slice (some ⟨ab, off, none⟩) xs.length c]) (t := 32) (fr := (0, 0)) (Hbx.out.upd hup6 (by
     rintro (e' | e')
     · exact Hou.out.ne_cells Hbx.out (by decide) e'
     exact Hown'.out.ne_cells Hbx.out (by decide) (by rw [← e']; rfl))) (by decide)
    exact this (by rw [e]; rfl)
   have hbu : u.ownBlock ≠ some w.heap.size := Hou.out.ne_cells Hbx.out (by decide)
   have hbx06 := Hbx.out.upd hup6 (by rintro (e' | e'); exact hbu e'; exact hbg e')
   have hrd6 := hup6.keepRd Hrd1.out (by omega) (by
    rintro b (e | e)
    · have := (Hub.out _ e).1; omega
    omega)
   have hlen : ((rows ++ [[.int .i64 f, .slice (some ⟨ab, off, none⟩) xs.length c, u5]]) ++ rest).length = n := by
    have := Htot.out
    rw [List.length_append, List.length_append, List.length_singleton] at this ⊢
    exact this
   have hcl := Hih.out f1 us (.slice B1 us.length d1) (.slice (some ⟨g, 0, none⟩) n cl) _ w6 (by omega) (by rw [hlen]; omega) hrd6 hO6 (by omega)
   obtain ⟨q0, q1, -⟩ := hbx6.cells
   have Hcl := Lh hcl
   have HO6 := Lh hO6
   have Hup6 := Lh hup6
   have HO56 := Lh hO56
   have Hbx06 := Lh hbx06
   have Hlen := Lh hlen
   have Hg5 := Lh hg5
   have Hbg := Lh hbg
   have Hbu := Lh hbu
   have H5o := Lh h5o
   have Hu5 := Lh hu5
   have Hz6 := Lh hz6
   clear hcl hO6 hup6 hO56 hbx06 hlen hg5 hbg hbu h5o hupa hbx6 hrd6 hu5 hz6
   go_wp2_with fail
   refine Hcl.out.mono ?_
   rintro e w7 ⟨v7, new, rfl, hown7, hup7, hat7, hrs7⟩
   have hg7 : ∀ b, (Value.slice (some ⟨g, 0, none⟩) n cl).ownBlock = some b → b = g := fun b hb => by injection hb with hb; exact hb.symm
   have hup67 : Upd wr w7 (fun b => u.ownBlock = some b ∨ b = g) := Hup6.out.trans hup7 (fun i hi => .inl (.inr (hg7 i hi)))
   have hbx7 := Hbx06.out.upd hup7 (fun e => Hbg.out (hg7 _ e))
   have ho57 := HO56.out.upd hup7 (fun b hb e => Hg5.out (by rw [hg7 b e] at hb; exact hb))
   have hrest : RowsP w7 (fun b => b < B ∨ (w.heap.size ≤ b ∧ v7.ownBlock ≠ some b ∧ u5.ownBlock ≠ some b)) rest (layPs (xs.take k) (rows.length + 1)) := by
    refine ((Hrs.out.more (P' := fun b => (b < B ∨ (w.heap.size ≤ b ∧ b ≠ g ∧ u.ownBlock ≠ some b)) ∧ b < wr.heap.size) (fun b hb hlb => ⟨by
     rcases hb with hb | ⟨h1, h2, h3⟩
     · exact .inl hb
     exact .inr ⟨h1, fun e => h2 (by rw [e]; rfl), h3⟩, hlb⟩)).upd hup67 (fun b hb _ e => ?_)).more (fun b hb _ => ?_)
    · rcases hb.1 with h1 | ⟨h1, h2, h3⟩
      · rcases e with e | e
        · have := (Hub.out b e).1; omega
        omega
      rcases e with e | e
      · exact h3 e
      exact h2 e
    rcases hb.1 with h1 | ⟨h1, h2, h3⟩
    · exact .inl h1
    refine .inr ⟨h1, fun e => ?_, fun e => ?_⟩
    · rcases hat7 with h | h
      · rw [h] at e; exact h2 (hg7 b e)
      have := h b e; have := Hup6.out.size; have := hb.2; omega
    rcases Hat5.out with h | h
    · rw [h] at e; exact h3 e
    rw [h] at e; injection e with e; rw [alloc_size] at e; have := hb.2; omega
   have hnew := hrs7.more (P' := fun b => b < B ∨ (w.heap.size ≤ b ∧ v7.ownBlock ≠ some b ∧ u5.ownBlock ≠ some b)) (fun b hb _ => by
    rcases hb with hb | ⟨h1, h2⟩
    · exact .inl hb
    refine .inr ⟨by have := Hup6.out.size; omega, h2, fun e => ?_⟩
    have := (H5o.out b e).2
    have := Hz6.out
    omega)
   rw [Hlen.out] at hnew
   have hrn := hrest.app hnew
   rw [← HL1.out] at hrn
   have hurn : Upd w w7 (fun b => (Value.slice Av rows.length cv).ownBlock = some b) := Hur.out.trans hup67 (fun i hi => by
    rcases hi with hi | rfl
    · exact .inr (Hub.out i hi).1
    rcases Hatl.out with h | h
    · exact .inl (by rw [← h]; rfl)
    exact .inr (h _ rfl))
   have hatn : v7.ownBlock = (Value.slice Av rows.length cv).ownBlock ∨ ∀ g, v7.ownBlock = some g → w.heap.size ≤ g := by
    rcases hat7 with h | h
    · rcases Hatl.out with h' | h'
      · exact .inl (h.trans h')
      exact .inr (fun b hb => h' b (by rw [← h]; exact hb))
    exact .inr (fun b hb => by have := h b hb; have := Hup6.out.size; omega)
   rw [List.append_assoc] at hown7
   have Hn1 := Lh hown7
   have Hn2 := Lh ho57
   have Hn3 := Lh hrn
   have Hn4 := Lh hbx7
   have Hn5 := Lh hurn
   have Hn6 := Lh hatn
   clear hown7 hup7 hat7 hrs7 hg7 hup67 hbx7 ho57 hrest hnew hrn hurn hatn q0 q1
   go_wp2_with fail
   go_roundw
   case rel => exact ⟨k + 1, u5, _, by omega, by go_num, Hn1.out, Hn2.out, Hn3.out, Hn4.out, Hn5.out, Hn6.out⟩
   case measure => simp [intOf]; omega
 have hkk : xs.take k = xs := List.take_of_length_le (by omega)
 rw [hkk] at hou hrs
 have hP : RdP wr (fun b => b < B ∨ (w.heap.size ≤ b ∧ (Value.slice (some ⟨g, 0, none⟩) n cl).ownBlock ≠ some b)) (.sl 2 (encTms xs)) (.slice A xs.length c) :=
  ((hur.keepRd HR.out (by omega) (by intro b hb; have := (HOL.out b hb).1; omega)).rdP (by omega)).more (fun b hb _ => .inl hb)
 have hQ : RdP wr (fun b => b < B ∨ (w.heap.size ≤ b ∧ (Value.slice (some ⟨g, 0, none⟩) n cl).ownBlock ≠ some b)) (encIs (posOf xs (rows.length + 1))) u :=
  (icells_rdP hou (by rw [posOf_len]; omega)).more (fun b hb _ => .inr ⟨(hub b hb).1, fun e => hne b hb (by injection e with e; exact e.symm)⟩)
 obtain ⟨au2, cu2, hu2⟩ := icells_form hou
 rw [hu2] at hQ hown
 have hall := (RowsP.one (f := f) hP hQ).app (hrs.more (P' := fun b => b < B ∨ (w.heap.size ≤ b ∧ (Value.slice (some ⟨g, 0, none⟩) n cl).ownBlock ≠ some b)) (fun b hb _ => by
  rcases hb with hb | ⟨h1, h2, h3⟩
  · exact .inl hb
  exact .inr ⟨h1, h2⟩))
 have e : [(Tm.mk f xs, posOf xs (rows.length + 1))] ++ layPs xs (rows.length + 1) = layP (.mk f xs) rows.length := by rw [layP]; rfl
 rw [e] at hall
 rw [List.append_assoc] at hown
 have H1 := Lh hown
 have H2 := Lh hall
 have H3 := Lh hur
 have H4 := Lh hat
 clear hown hall hur hat hP hQ hrs hou hne hub hu hu2 hnn hkk e
 go_wp2_with fail
 go_ret
 exact ⟨_, _, rfl, H1.out, H3.out, H4.out, H2.out⟩
end Go.Proofs.YtbkpkahhdlomiaaGreat
namespace Go.Proofs.YtbkpkahhdlomiaaGreat
open Classical in
mutual
noncomputable def lgt (pr : Int → Int) : Tm → Tm → Bool
 | .mk f xs, .mk g ys =>
   if f < 0 then false
   else if g < 0 then decide (g ∈ vL (.mk f xs))
   else lwithin pr xs (.mk g ys) || (decide (f ≠ g ∧ pr g < pr f) && lall pr (.mk f xs) ys) || (decide (f = g) && lall pr (.mk f xs) ys && llex pr xs ys)
 termination_by s t => 2 * (sizeT s + sizeT t)
 decreasing_by all_goals (simp only [sizeT]; omega)
noncomputable def lwithin (pr : Int → Int) : List Tm → Tm → Bool
 | [], _ => false
 | x :: xs, t => decide (x = t) || lgt pr x t || lwithin pr xs t
 termination_by xs t => 2 * (sizeTs xs + sizeT t) + 1
 decreasing_by all_goals (simp only [sizeTs]; have := sizeT_pos x; omega)
noncomputable def lall (pr : Int → Int) : Tm → List Tm → Bool
 | _, [] => true
 | s, y :: ys => lgt pr s y && lall pr s ys
 termination_by s ys => 2 * (sizeT s + sizeTs ys) + 1
 decreasing_by all_goals (simp only [sizeTs]; have := sizeT_pos y; omega)
noncomputable def llex (pr : Int → Int) : List Tm → List Tm → Bool
 | [], _ => false
 | _ :: _, [] => true
 | x :: xs, y :: ys => if x = y then llex pr xs ys else lgt pr x y
 termination_by xs ys => 2 * (sizeTs xs + sizeTs ys) + 1
 decreasing_by all_goals (simp only [sizeTs]; have := sizeT_pos x; have := sizeT_pos y; omega)
end
open Classical in
theorem lwithin_iff (pr : Int → Int) (t : Tm) : ∀ xs : List Tm, lwithin pr xs t = true ↔ ∃ x ∈ xs, x = t ∨ lgt pr x t = true
 | [] => by rw [lwithin]; simp
 | x :: xs => by
   rw [lwithin, Bool.or_eq_true, Bool.or_eq_true, lwithin_iff pr t xs, decide_eq_true_iff]
   simp
theorem lall_iff (pr : Int → Int) (s : Tm) : ∀ ys : List Tm, lall pr s ys = true ↔ ∀ y ∈ ys, lgt pr s y = true
 | [] => by rw [lall]; simp
 | y :: ys => by rw [lall, Bool.and_eq_true, lall_iff pr s ys]; simp
open Classical in
theorem lgt_iff (pr : Int → Int) {f g : Int} {xs ys : List Tm} : lgt pr (.mk f xs) (.mk g ys) = true ↔ 0 ≤ f ∧ ((g < 0 ∧ g ∈ vL (.mk f xs)) ∨ (0 ≤ g ∧ ((∃ x ∈ xs, x = .mk g ys ∨ lgt pr x (.mk g ys) = true) ∨
 ((∀ y ∈ ys, lgt pr (.mk f xs) y = true) ∧ ((f ≠ g ∧ pr g < pr f) ∨ (f = g ∧ llex pr xs ys = true)))))) := by
 rw [lgt]
 by_cases hf : f < 0
 · rw [if_pos hf]
   exact ⟨fun h => (by cases h), fun h => by omega⟩
 rw [if_neg hf]
 by_cases hg : g < 0
 · rw [if_pos hg, decide_eq_true_iff]
   constructor
   · intro h; exact ⟨by omega, .inl ⟨hg, h⟩⟩
   rintro ⟨-, h | h⟩
   · exact h.2
   omega
 rw [if_neg hg, Bool.or_eq_true, Bool.or_eq_true, Bool.and_eq_true, Bool.and_eq_true, Bool.and_eq_true, lwithin_iff, lall_iff, decide_eq_true_iff, decide_eq_true_iff]
 constructor
 · rintro ((h | h) | h)
   · exact ⟨by omega, .inr ⟨by omega, .inl h⟩⟩
   · exact ⟨by omega, .inr ⟨by omega, .inr ⟨h.2, .inl h.1⟩⟩⟩
   exact ⟨by omega, .inr ⟨by omega, .inr ⟨h.1.2, .inr ⟨h.1.1, h.2⟩⟩⟩⟩
 rintro ⟨-, h | ⟨-, h | ⟨h1, h | h⟩⟩⟩
 · omega
 · exact .inl (.inl h)
 · exact .inl (.inr ⟨h, h1⟩)
 exact .inr ⟨⟨h.1, h1⟩, h.2⟩
theorem llex_self (pr : Int → Int) : ∀ xs : List Tm, llex pr xs xs = false
 | [] => by rw [llex]
 | x :: xs => by rw [llex, if_pos rfl, llex_self pr xs]
theorem mem_vLs {v : Int} : ∀ {xs : List Tm} {x : Tm}, x ∈ xs → v ∈ vL x → v ∈ vLs xs
 | y :: ys, x, h, hv => by
   rw [vLs, List.mem_append]
   rcases List.mem_cons.1 h with rfl | h
   · exact .inl hv
   exact .inr (mem_vLs h hv)
theorem vL_arg {v f : Int} {xs : List Tm} {x : Tm} (h : x ∈ xs) (hv : v ∈ vL x) : v ∈ vL (.mk f xs) := by
 rw [vL, List.mem_append]; exact .inr (mem_vLs h hv)
theorem lgt_vars {ar : Int → Option Nat} (pr : Int → Int) : ∀ (n : Nat) (s t : Tm) (v : Int), sizeT s + sizeT t < n → wfT ar t → lgt pr s t = true → v ∈ vL t → v ∈ vL s
 | 0, _, _, _, h, _, _, _ => by omega
 | n + 1, .mk f xs, .mk g ys, v, hn, ht, h, hv => by
   rw [lgt_iff] at h
   obtain ⟨hf, h⟩ := h
   rcases h with ⟨hg, h⟩ | ⟨hg, ⟨x, hx, h⟩ | ⟨h, -⟩⟩
   · obtain rfl := ht.var hg
     rw [vL, if_pos hg, vLs, List.append_nil, List.mem_singleton] at hv
     subst hv; exact h
   · refine vL_arg hx ?_
     rcases h with rfl | h
     · exact hv
     exact lgt_vars pr n x _ v (by have := sizeT_arg (f := f) hx; omega) ht h hv
   rw [vL, if_neg (by omega), List.nil_append] at hv
   obtain ⟨y, hy, hvy⟩ := vLs_arg hv
   exact lgt_vars pr n _ y v (by have := sizeT_arg (f := g) hy; omega) (ht.args hy) (h y hy) hvy
theorem lgt_arg {ar : Int → Option Nat} (pr : Int → Int) {f : Int} {xs : List Tm} {x : Tm} (h : wfT ar (.mk f xs)) (hx : x ∈ xs) : lgt pr (.mk f xs) x = true := by
 have hf : 0 ≤ f := by
  by_cases hf : f < 0
  · obtain rfl := h.var hf
    cases hx
  omega
 rcases x with ⟨g, ys⟩
 rw [lgt_iff]
 refine ⟨hf, ?_⟩
 by_cases hg : g < 0
 · exact .inl ⟨hg, vL_arg hx (by rw [vL, if_pos hg]; simp)⟩
 exact .inr ⟨by omega, .inl ⟨_, hx, .inl rfl⟩⟩
theorem llex_trans (pr : Int → Int) : ∀ (xs ys zs : List Tm), xs.length = ys.length → ys.length = zs.length → (∀ x ∈ xs, ∀ y ∈ ys, ∀ z ∈ zs, lgt pr x y = true → lgt pr y z = true → lgt pr x z = true ∧ x ≠ z) →
 llex pr xs ys = true → llex pr ys zs = true → llex pr xs zs = true
 | [], _, _, _, _, _, h, _ => by rw [llex] at h; cases h
 | x :: xs, [], _, h, _, _, _, _ => by cases h
 | x :: xs, y :: ys, [], _, h, _, _, _ => by cases h
 | x :: xs, y :: ys, z :: zs, h1, h2, ih, g1, g2 => by
   rw [llex] at g1 g2 ⊢
   have ih0 := ih x List.mem_cons_self y List.mem_cons_self z List.mem_cons_self
   by_cases e1 : x = y
   · rw [if_pos e1] at g1
     by_cases e2 : y = z
     · rw [if_pos e2] at g2
       rw [if_pos (e1.trans e2)]
       exact llex_trans pr xs ys zs (by simpa using h1) (by simpa using h2) (fun a ha b hb c hc => ih a (List.mem_cons_of_mem _ ha) b (List.mem_cons_of_mem _ hb) c (List.mem_cons_of_mem _ hc)) g1 g2
     rw [if_neg e2] at g2
     subst e1
     rw [if_neg e2]; exact g2
   rw [if_neg e1] at g1
   by_cases e2 : y = z
   · subst e2
     rw [if_neg e1]; exact g1
   rw [if_neg e2] at g2
   obtain ⟨h3, h4⟩ := ih0 g1 g2
   rw [if_neg h4]; exact h3
theorem lgt_both {ar : Int → Option Nat} (pr : Int → Int) : ∀ n : Nat,
 (∀ s t u : Tm, sizeT s + sizeT t + sizeT u < n → wfT ar s → wfT ar t → wfT ar u → lgt pr s t = true → lgt pr t u = true → lgt pr s u = true) ∧
 (∀ s : Tm, sizeT s + sizeT s + sizeT s < n → wfT ar s → lgt pr s s = false)
 | 0 => ⟨fun _ _ _ h => by omega, fun s h => by omega⟩
 | n + 1 => by
   obtain ⟨ih, ir⟩ := lgt_both pr n
   constructor
   · rintro ⟨f, xs⟩ ⟨g, ys⟩ ⟨h, zs⟩ hn hs ht hu g1 g2
     have G1 := g1
     have G2 := g2
     rw [lgt_iff] at g1 g2
     obtain ⟨hf, g1⟩ := g1
     obtain ⟨hg, g2⟩ := g2
     rcases g1 with ⟨hg', -⟩ | ⟨-, g1⟩
     · omega
     by_cases hh : h < 0
     · rw [lgt_iff]
       refine ⟨hf, .inl ⟨hh, lgt_vars pr _ _ _ _ (Nat.lt_succ_self _) ht G1 ?_⟩⟩
       rcases g2 with ⟨-, g2⟩ | ⟨h', -⟩
       · exact g2
       omega
     rcases g2 with ⟨h', -⟩ | ⟨-, g2⟩
     · omega
     rcases g1 with ⟨x, hx, g1⟩ | ⟨a1, g1⟩
     · rw [lgt_iff]
       refine ⟨hf, .inr ⟨by omega, .inl ⟨x, hx, .inr ?_⟩⟩⟩
       rcases g1 with rfl | g1
       · exact G2
       exact ih x _ _ (by have := sizeT_arg (f := f) hx; omega) (hs.args hx) ht hu g1 G2
     rcases g2 with ⟨y, hy, g2⟩ | ⟨a2, g2⟩
     · have h1 := a1 y hy
       rcases g2 with rfl | g2
       · exact h1
       exact ih _ y _ (by have := sizeT_arg (f := g) hy; omega) hs (ht.args hy) hu h1 g2
     rw [lgt_iff]
     refine ⟨hf, .inr ⟨by omega, .inr ⟨fun z hz => ih _ _ z (by have := sizeT_arg (f := h) hz; omega) hs ht (hu.args hz) G1 (a2 z hz), ?_⟩⟩⟩
     rcases g1 with g1 | ⟨e1, g1⟩ <;> rcases g2 with g2 | ⟨e2, g2⟩
     · exact .inl ⟨fun e => by subst e; omega, by omega⟩
     · subst e2; exact .inl g1
     · subst e1; exact .inl g2
     subst e1
     subst e2
     refine .inr ⟨rfl, llex_trans pr xs ys zs (hs.len ht hf) (ht.len hu hf) (fun x hx y hy z hz k1 k2 => ?_) g1 g2⟩
     have s1 := sizeT_arg (f := f) hx
     have s2 := sizeT_arg (f := f) hy
     have s3 := sizeT_arg (f := f) hz
     have wx := hs.args hx
     have wy := ht.args hy
     refine ⟨ih x y z (by omega) wx wy (hu.args hz) k1 k2, ?_⟩
     rintro rfl
     by_cases hxy : sizeT x ≤ sizeT y
     · have := ih x y x (by omega) wx wy wx k1 k2
       rw [ir x (by omega) wx] at this
       cases this
     have := ih y x y (by omega) wy wx wy k2 k1
     rw [ir y (by omega) wy] at this
     cases this
   rintro ⟨f, xs⟩ hn hs
   cases hb : lgt pr (.mk f xs) (.mk f xs) with
   | false => rfl
   | true =>
     exfalso
     rw [lgt_iff] at hb
     obtain ⟨hf, h | ⟨-, ⟨x, hx, h⟩ | ⟨-, h | h⟩⟩⟩ := hb
     · omega
     · have s1 := sizeT_arg (f := f) hx
       rcases h with h | h
       · exact ne_arg hx h.symm
       have := ih x _ x (by omega) (hs.args hx) hs (hs.args hx) h (lgt_arg pr hs hx)
       rw [ir x (by omega) (hs.args hx)] at this
       cases this
     · exact h.1 rfl
     rw [llex_self] at h; cases h.2
theorem lgt_trans {ar : Int → Option Nat} (pr : Int → Int) {s t u : Tm} (hs : wfT ar s) (ht : wfT ar t) (hu : wfT ar u) (h : lgt pr s t = true) (h' : lgt pr t u = true) : lgt pr s u = true :=
 (lgt_both pr _).1 s t u (Nat.lt_succ_self _) hs ht hu h h'
theorem lgt_irr {ar : Int → Option Nat} (pr : Int → Int) {s : Tm} (hs : wfT ar s) : lgt pr s s = false :=
 (lgt_both pr _).2 s (Nat.lt_succ_self _) hs
theorem lgt_ne {ar : Int → Option Nat} {pr : Int → Int} {s t : Tm} (hs : wfT ar s) (h : lgt pr s t = true) : s ≠ t := by
 rintro rfl
 rw [lgt_irr pr hs] at h; cases h
theorem lgt_in {ar : Int → Option Nat} (pr : Int → Int) (σ : Int → Option Tm) (hσ : ∀ f t, σ f = some t → wfT ar t) {v : Int} : ∀ (n : Nat) (f : Int) (xs : List Tm), sizeT (.mk f xs) < n → 0 ≤ f → wfT ar (.mk f xs) → v ∈ vL (.mk f xs) → lgt pr (putU σ (.mk f xs)) (atV σ v) = true
 | 0, f, xs, hn, _, _, _ => by omega
 | n + 1, f, xs, hn, hf, h, hm => by
   rw [vL, if_neg (by omega), List.nil_append] at hm
   obtain ⟨⟨g, ys⟩, hx, hvx⟩ := vLs_arg hm
   have hw := putU_wf hσ _ _ (Nat.lt_succ_self _) h
   have hs := sizeT_arg (f := f) hx
   rw [putU_sym σ hf] at hw ⊢
   have h1 := lgt_arg pr (x := putU σ (.mk g ys)) hw (List.mem_map_of_mem hx)
   have hg := h.args hx
   by_cases hg0 : g < 0
   · obtain rfl := hg.var hg0
     rw [vL, if_pos hg0, vLs, List.append_nil, List.mem_singleton] at hvx
     subst hvx
     rw [putU_var σ hg0] at h1
     exact h1
   have h2 := lgt_in pr σ hσ n g ys (by omega) (by omega) hg hvx
   exact lgt_trans pr hw (putU_wf hσ _ _ (Nat.lt_succ_self _) hg) (atV_wf hσ (vL_neg _ _ hvx)) h1 h2
theorem llex_map (pr : Int → Int) (φ : Tm → Tm) : ∀ (xs ys : List Tm), (∀ x ∈ xs, ∀ y ∈ ys, lgt pr x y = true → lgt pr (φ x) (φ y) = true ∧ φ x ≠ φ y) → xs.length = ys.length → llex pr xs ys = true → llex pr (xs.map φ) (ys.map φ) = true
 | [], _, _, _, h => by rw [llex] at h; cases h
 | x :: xs, [], _, h, _ => by cases h
 | x :: xs, y :: ys, ih, hl, h => by
   rw [llex] at h
   rw [List.map_cons, List.map_cons, llex]
   by_cases e : x = y
   · rw [if_pos e] at h
     subst e
     rw [if_pos rfl]
     exact llex_map pr φ xs ys (fun a ha b hb => ih a (List.mem_cons_of_mem _ ha) b (List.mem_cons_of_mem _ hb)) (by simpa using hl) h
   rw [if_neg e] at h
   obtain ⟨h1, h2⟩ := ih x List.mem_cons_self y List.mem_cons_self h
   rw [if_neg h2]; exact h1
theorem lgt_putU {ar : Int → Option Nat} (pr : Int → Int) (σ : Int → Option Tm) (hσ : ∀ f t, σ f = some t → wfT ar t) : ∀ (n : Nat) (s t : Tm), sizeT s + sizeT t < n → wfT ar s → wfT ar t → lgt pr s t = true → lgt pr (putU σ s) (putU σ t) = true
 | 0, s, _, hn, _, _, _ => by omega
 | n + 1, .mk f xs, .mk g ys, hn, hs, ht, h => by
   rw [lgt_iff] at h
   obtain ⟨hf, h⟩ := h
   by_cases hg : g < 0
   · obtain rfl := ht.var hg
     rw [putU_var σ hg]
     rcases h with h | h
     · exact lgt_in pr σ hσ _ f xs (Nat.lt_succ_self _) hf hs h.2
     omega
   rcases h with h | ⟨-, h⟩
   · omega
   have hwt := putU_wf hσ _ _ (Nat.lt_succ_self _) ht
   rw [putU_sym σ hf, putU_sym σ (by omega), lgt_iff]
   refine ⟨hf, .inr ⟨by omega, ?_⟩⟩
   rcases h with ⟨x, hx, h⟩ | ⟨h, h1⟩
   · refine .inl ⟨putU σ x, List.mem_map_of_mem hx, ?_⟩
     rw [← putU_sym σ (f := g) (by omega)]
     rcases h with rfl | h
     · exact .inl rfl
     exact .inr (lgt_putU pr σ hσ n x _ (by have := sizeT_arg (f := f) hx; omega) (hs.args hx) ht h)
   refine .inr ⟨fun z hz => ?_, ?_⟩
   · obtain ⟨y, hy, rfl⟩ := List.mem_map.1 hz
     rw [← putU_sym σ hf]
     exact lgt_putU pr σ hσ n _ y (by have := sizeT_arg (f := g) hy; omega) hs (ht.args hy) (h y hy)
   rcases h1 with h1 | ⟨rfl, h1⟩
   · exact .inl h1
   refine .inr ⟨rfl, llex_map pr (putU σ) xs ys (fun x hx y hy h => ?_) (hs.len ht hf) h1⟩
   have := lgt_putU pr σ hσ n x y (by have := sizeT_arg (f := f) hx; have := sizeT_arg (f := f) hy; omega) (hs.args hx) (ht.args hy) h
   exact ⟨this, lgt_ne (putU_wf hσ _ _ (Nat.lt_succ_self _) (hs.args hx)) this⟩
theorem llex_total (pr : Int → Int) : ∀ (xs ys : List Tm), (∀ x ∈ xs, ∀ y ∈ ys, x ≠ y → lgt pr x y = true ∨ lgt pr y x = true) → xs.length = ys.length → xs ≠ ys → llex pr xs ys = true ∨ llex pr ys xs = true
 | [], [], _, _, h => absurd rfl h
 | [], y :: ys, _, h, _ => by cases h
 | x :: xs, [], _, h, _ => by cases h
 | x :: xs, y :: ys, ih, hl, h => by
   rw [llex, llex]
   by_cases e : x = y
   · subst e
     rw [if_pos rfl, if_pos rfl]
     exact llex_total pr xs ys (fun a ha b hb => ih a (List.mem_cons_of_mem _ ha) b (List.mem_cons_of_mem _ hb)) (by simpa using hl) (fun e => h (by rw [e]))
   rw [if_neg e, if_neg (fun e' => e e'.symm)]
   exact ih x List.mem_cons_self y List.mem_cons_self e
theorem vLs_nil {zs : List Tm} (h : vLs zs = []) {z : Tm} (hz : z ∈ zs) : vL z = [] := by
 refine List.eq_nil_iff_forall_not_mem.2 fun v hv => ?_
 have := mem_vLs hz hv
 rw [h] at this; cases this
theorem lgt_total {ar : Int → Option Nat} {pr : Int → Int} (inj : ∀ f g, 0 ≤ f → 0 ≤ g → ar f ≠ none → ar g ≠ none → pr f = pr g → f = g) : ∀ (n : Nat) (s t : Tm), sizeT s + sizeT t < n → wfT ar s → wfT ar t → vL s = [] → vL t = [] → s ≠ t → lgt pr s t = true ∨ lgt pr t s = true
 | 0, s, _, hn, _, _, _, _, _ => by omega
 | n + 1, .mk f xs, .mk g ys, hn, hs, ht, vs, vt, hne => by
   have ws := vs
   have wt := vt
   rw [vL] at vs vt
   have hf : ¬ f < 0 := fun h => by rw [if_pos h] at vs; cases vs
   have hg : ¬ g < 0 := fun h => by rw [if_pos h] at vt; cases vt
   rw [if_neg hf, List.nil_append] at vs
   rw [if_neg hg, List.nil_append] at vt
   rw [lgt_iff, lgt_iff]
   by_cases h1 : ∃ x ∈ xs, x = .mk g ys ∨ lgt pr x (.mk g ys) = true
   · exact .inl ⟨by omega, .inr ⟨by omega, .inl h1⟩⟩
   by_cases h2 : ∃ y ∈ ys, y = .mk f xs ∨ lgt pr y (.mk f xs) = true
   · exact .inr ⟨by omega, .inr ⟨by omega, .inl h2⟩⟩
   have a1 : ∀ y ∈ ys, lgt pr (.mk f xs) y = true := fun y hy => by
    rcases lgt_total inj n (.mk f xs) y (by have := sizeT_arg (f := g) hy; omega) hs (ht.args hy) ws (vLs_nil vt hy) (fun e => h2 ⟨y, hy, .inl e.symm⟩) with h | h
    · exact h
    exact absurd ⟨y, hy, .inr h⟩ h2
   have a2 : ∀ x ∈ xs, lgt pr (.mk g ys) x = true := fun x hx => by
    rcases lgt_total inj n x (.mk g ys) (by have := sizeT_arg (f := f) hx; omega) (hs.args hx) ht (vLs_nil vs hx) wt (fun e => h1 ⟨x, hx, .inl e⟩) with h | h
    · exact absurd ⟨x, hx, .inr h⟩ h1
    exact h
   by_cases hfg : f = g
   · subst hfg
     rcases llex_total pr xs ys (fun x hx y hy => lgt_total inj n x y (by have := sizeT_arg (f := f) hx; have := sizeT_arg (f := f) hy; omega) (hs.args hx) (ht.args hy) (vLs_nil vs hx) (vLs_nil vt hy)) (hs.len ht (by omega)) (fun e => hne (by rw [e])) with h | h
     · exact .inl ⟨by omega, .inr ⟨by omega, .inr ⟨a1, .inr ⟨rfl, h⟩⟩⟩⟩
     exact .inr ⟨by omega, .inr ⟨by omega, .inr ⟨a2, .inr ⟨rfl, h⟩⟩⟩⟩
   have hp : pr f ≠ pr g := fun e => hfg (inj f g (by omega) (by omega) (by rw [hs.ar (by omega)]; simp) (by rw [ht.ar (by omega)]; simp) e)
   by_cases hp2 : pr g < pr f
   · exact .inl ⟨by omega, .inr ⟨by omega, .inr ⟨a1, .inl ⟨hfg, hp2⟩⟩⟩⟩
   exact .inr ⟨by omega, .inr ⟨by omega, .inr ⟨a2, .inl ⟨fun e => hfg e.symm, by omega⟩⟩⟩⟩
theorem llex_set (pr : Int → Int) {x y : Tm} (hne : x ≠ y) (h : lgt pr x y = true) : ∀ (xs : List Tm) (i : Nat), xs[i]? = some x → llex pr xs (xs.set i y) = true
 | [], i, hi => by simp at hi
 | z :: xs, 0, hi => by
   rw [List.getElem?_cons_zero] at hi
   injection hi with hi
   subst hi
   rw [List.set_cons_zero, llex, if_neg hne]; exact h
 | z :: xs, i + 1, hi => by
   rw [List.getElem?_cons_succ] at hi
   rw [List.set_cons_succ, llex, if_pos rfl]
   exact llex_set pr hne h xs i hi
theorem lgt_set {ar : Int → Option Nat} {pr : Int → Int} {f : Int} {xs : List Tm} {i : Nat} {x y : Tm} (hw : wfT ar (.mk f xs)) (hy : wfT ar y) (hx : xs[i]? = some x) (h : lgt pr x y = true) : lgt pr (.mk f xs) (.mk f (xs.set i y)) = true := by
 have hf : 0 ≤ f := by
  by_cases hf : f < 0
  · obtain rfl := hw.var hf
    simp at hx
  omega
 have hm : x ∈ xs := List.mem_of_getElem? hx
 rw [lgt_iff]
 refine ⟨hf, .inr ⟨hf, .inr ⟨fun z hz => ?_, .inr ⟨rfl, llex_set pr (lgt_ne (hw.args hm) h) h xs i hx⟩⟩⟩⟩
 rcases List.mem_or_eq_of_mem_set hz with hz | rfl
 · exact lgt_arg pr hw hz
 exact lgt_trans pr hw (hw.args hm) hy (lgt_arg pr hw hm) h
end Go.Proofs.YtbkpkahhdlomiaaGreat
namespace Go.Proofs.YtbkpkahhdlomiaaGreat
open Go.RowKit
def Od.kp (o : Od) : KP := ⟨fun f => o.prec[f.toNat]?.getD 0, fun f => (o.weights[f.toNat]?.getD 0).toNat⟩
structure KOd (ar : Int → Option Nat) (o : Od) : Prop where
 knows : Knows ar o
 lpo : o.lpo = false
 var : o.var = 1
 lo : ∀ (k : Nat) (h : k < o.weights.length), 0 ≤ o.weights[k] ∧ o.weights[k] ≤ 1000
def CntRes (nb : Nat) (n : Int) (w : World) (e : Ending) (w' : World) : Prop := e = .returned (.tuple #[]) ∧ Box1 nb 3 (.int .i64 n) w' ∧ Upd w w' (fun b => b = nb)
theorem wTs_take (o : KP) {xs : List Tm} {k : Nat} (h : k < xs.length) : wTs o (xs.take (k + 1)) = wTs o (xs.take k) + wT o xs[k] := by
 induction xs generalizing k with
 | nil => simp at h
 | cons x xs ih =>
   cases k with
   | zero => simp [wTs]
   | succ k =>
     rw [List.take_succ_cons, List.take_succ_cons, wTs, wTs, ih (by simpa using h), List.getElem_cons_succ]
     omega
theorem wTs_take_le (o : KP) (xs : List Tm) (k : Nat) : wTs o (xs.take k) ≤ wTs o xs := by
 induction xs generalizing k with
 | nil => simp
 | cons x xs ih =>
   cases k with
   | zero => simp [wTs]
   | succ k => rw [List.take_succ_cons, wTs, wTs]; have := ih k; omega
theorem weigh_fin {nb : Nat} {n n' : Nat} {w w' : World} (hu : Upd w w' (fun b => b = nb)) (h : n = n') (hb : Box1 nb 3 (.int .i64 (n : Nat)) w') : CntRes nb (n' : Nat) w (.returned (.tuple #[])) w' := ⟨rfl, h ▸ hb, hu⟩
theorem weigh1_any {ar : Int → Option Nat} {o : Od} (hk : KOd ar o) (ob nb fb : Nat) (Ap Aw : Option Addr) (cp cw : Nat) (hob : ob ≠ nb) (hfb : fb ≠ nb) (D : Nat) : ∀ (f : Int) (xs : List Tm) (v2 : Value) (B : Nat) (m : Nat) (w : World), sizeTs xs < D → wfT ar (.mk f xs) → m + wT o.kp (.mk f xs) ≤ 1000000000 → Rd w B (.sl 2 (encTms xs)) v2 → B ≤ nb →
 Rd w B (encIs o.weights) (.slice Aw o.weights.length cw) → BoxN ob 38 #[.bool o.lpo, .slice Ap o.prec.length cp, .slice Aw o.weights.length cw, .int .i64 o.var] w → Box1 nb 3 (.int .i64 (m : Nat)) w →
 Box1 fb 146 (.func (.func 102) #[] #[.pointer (some ⟨ob, 0, none⟩), .pointer (some ⟨nb, 0, none⟩), .pointer (some ⟨fb, 0, none⟩)]) w →
 Calls Tryz.prog 102 (#[.agg #[.int .i64 f, v2]] ++ #[.pointer (some ⟨ob, 0, none⟩), .pointer (some ⟨nb, 0, none⟩), .pointer (some ⟨fb, 0, none⟩)]) w (CntRes nb ((m + wT o.kp (.mk f xs) : Nat) : Int) w) := by
 induction D with
 | zero => intro f xs v2 B m w h; omega
 | succ D ih =>
 intro f xs v2 B m w hD hw hmw hr hB hrw ho hn hfn
 obtain ⟨A, c, rfl, hc, hxn, hm⟩ := hr.tm_form
 have hnl := ltOf hn
 have hol := ltOf ho
 have hfl := ltOf hfn
 have HR := Lh hr
 have HW := Lh hrw
 have HO := Lh ho
 have HN := Lh hn
 have HF := Lh hfn
 have Hih := Lh ih
 have Hw := Lh hw
 have Hob := Lh hob
 have Hfb := Lh hfb
 have Hk := Lh hk
 have e0 : wT o.kp (.mk f xs) = (if f < 0 then 1 else o.kp.wf f) + wTs o.kp xs := by rw [wT]
 obtain ⟨c0, hc0⟩ : ∃ c0 : Nat, (if f < 0 then 1 else o.kp.wf f) = c0 := ⟨_, rfl⟩
 rw [hc0] at e0
 rw [e0] at hmw ⊢
 have Hc0 := Lh hc0
 clear hr hrw ho hn hfn ih hob hfb hk e0 hc0
 by_cases hf : f < 0
 · have hx0 := hw.var hf
   have hc1 : c0 = 1 := by rw [← Hc0.out, if_pos hf]
   have hov : o.var = 1 := Hk.out.var
   have hs0 : wTs o.kp xs = 0 := by rw [hx0, wTs]
   have HS0 := Lh hs0
   rw [hc1] at hmw ⊢
   have Hov := Lh hov
   clear hw hx0 hc1 hs0 hov Hc0
   go_enter Tryz.func102, Tryz.ntmps102
   go_upto_region 1 with fail
   obtain ⟨hx1, hB1, hz1⟩ := boxes1 w (.cells #[.int .i64 f, .slice A xs.length c] 32)
   have hx1 : Box2 w.heap.size 32 (.int .i64 f) (.slice A xs.length c) _ := hx1
   generalize w.alloc (.cells #[.int .i64 f, .slice A xs.length c] 32) = w1 at hx1 hB1 hz1 ⊢
   have HX1 := Lh hx1
   have HB1 := Lh hB1
   obtain ⟨x10, x11, -⟩ := hx1.cells
   have ho1 := HO.out.low HB1.out
   have hn1 := HN.out.low HB1.out
   have y2 : w1.cell? ⟨ob, 2, none⟩ = some (.slice Aw o.weights.length cw) := ho1.cell 2
   have y3 : w1.cell? ⟨ob, 3, none⟩ = some (.int .i64 o.var) := ho1.cell 3
   have n0 := hn1.cell
   have n1 := hn1.free
   clear hx1 hB1 ho1 hn1
   rw [Hov.out] at y3
   go_wp2_with fail
   have hn2 := (HN.out.low HB1.out).set (.int .i64 ((m : Int) + 1))
   have hu2 : Upd w (w1.setCell ⟨nb, 0, none⟩ (.int .i64 ((m : Int) + 1))) (fun b => b = nb) := (Upd.low HB1.out _).setCell _ _ (.inl rfl)
   have hx2 := HX1.out.upd (upd_set (w := w1) (b := nb) (o := 0) (.int .i64 ((m : Int) + 1))) (by omega)
   generalize w1.setCell ⟨nb, 0, none⟩ (.int .i64 ((m : Int) + 1)) = w2 at hn2 hu2 hx2 ⊢
   have HN2 := Lh hn2
   have HU2 := Lh hu2
   have HX2 := Lh hx2
   clear hn2 hu2 hx2 x10 x11 y2 y3 n0 n1
   go_loopw [28] (fun i wr => ∃ k : Nat, k ≤ xs.length ∧ i = .int .i64 k ∧ Box1 nb 3 (.int .i64 ((m + 1 + wTs o.kp (xs.take k) : Nat) : Int)) wr ∧ Upd w2 wr (fun b => b = nb)) (fun i _ => xs.length - (intOf i).toNat)
   case atStart => exact ⟨0, Nat.zero_le _, rfl, by rw [show (m + 1 + wTs o.kp (xs.take 0) : Nat) = m + 1 by simp [wTs]]; exact HN2.out, Upd.refl _ _⟩
   obtain ⟨k, hkl, rfl, hbox, hur⟩ := hrel
   have hz2 := HU2.out.size
   have hzr := hur.size
   have hzb := HX2.out.lt
   have hwr : Upd w wr (fun b => b = nb) := HU2.out.trans hur (fun _ e => .inl e)
   have hbr := HX2.out.upd hur (by omega)
   obtain ⟨x20, x21, -⟩ := hbr.cells
   have Hwr2 := Lh hwr
   by_cases hlt : k < xs.length
   · obtain ⟨ab, off, f1, us, B1, d1, rfl, hxk, hab, k0, k1, hrd1⟩ := (hwr.keepRd HR.out (by omega) (by rintro k rfl; exact hB)).tm_at hlt
     have hs1 := sizeTs_mem hlt
     have hw1 := wTs_take o.kp hlt
     have hw2 := wTs_take_le o.kp xs (k + 1)
     rw [hxk] at hs1 hw1
     simp only [sizeT] at hs1
     have hwx := Hw.out.args (List.getElem_mem hlt)
     rw [hxk] at hwx
     have hfb := HF.out.upd hwr Hfb.out
     have hflr : fb < wr.heap.size := by omega
     have g0 := hfb.cell
     have hcl := fun (w' : World) (hb : Below wr.heap.size wr w') => Hih.out f1 us (.slice B1 us.length d1) B (m + 1 + wTs o.kp (xs.take k)) w' (by omega) hwx (by omega) (hrd1.low hb (by omega)) (by omega)
      ((hwr.keepRd HW.out (by omega) (by rintro k rfl; exact hB)).low hb (by omega)) ((HO.out.upd hwr Hob.out).low hb) (hbox.low hb) (hfb.low hb)
     have Hcl := Lh hcl
     have Hw1 := Lh hw1
     have Hur := Lh hur
     have Hlo := Lh hwr
     clear hcl hxk hrd1 hwx hfb hbox hur hw1 hw2 hwr hbr
     go_wp2_with fail
     refine (Hcl.out _ (below_box wr _)).mono ?_
     rintro e w6 ⟨rfl, hb6, hu6⟩
     have Hb6 := Lh hb6
     have Hu6 := Lh ((Upd.low (below_box wr (.cells #[.int .i64 f1, .slice B1 us.length d1] 32)) (fun b => b = nb)).trans hu6 (fun _ e => .inl e))
     clear hb6 hu6 Hcl
     go_wp2_with fail
     go_roundw
     case rel => exact ⟨k + 1, by omega, by go_num, by rw [Hw1.out, ← Nat.add_assoc]; exact Hb6.out, Hur.out.trans Hu6.out (fun _ e => .inl e)⟩
     case measure => simp [intOf]; omega
   have htk : xs.take k = xs := List.take_of_length_le (by omega)
   rw [htk] at hbox
   clear htk hur hwr hbr
   have HBX := Lh hbox
   clear hbox
   go_wp2_with fail
   go_end0
   have hbox := HBX.out
   exact weigh_fin Hwr2.out (Nat.add_assoc _ _ _) hbox
 obtain ⟨j, hfj⟩ : ∃ j : Nat, f = (j : Int) := ⟨f.toNat, by omega⟩
 have hft : f.toNat = j := by omega
 have hf0 : 0 ≤ f := by omega
 have hkj := Hk.out.knows.1 _ _ (by omega) (hw.ar (by omega))
 have hwl : o.weights.length = o.prec.length := Hk.out.knows.2 Hk.out.lpo
 have hj : j < o.weights.length := by omega
 obtain ⟨lo, hi⟩ := Hk.out.lo j hj
 have hc1 : (c0 : Int) = o.weights[j] := by
  have := Hc0.out
  rw [if_neg hf] at this
  unfold Od.kp at this
  simp only [hft] at this
  rw [List.getElem?_eq_getElem hj, Option.getD_some] at this
  omega
 rw [← hc1] at lo hi
 obtain ⟨wb, wo, rfl, hwb, w0⟩ := Rd.leaf_at (f := fun n => .int .i64 n) (show Rd w B (.sl 1 (o.weights.map fun n => [.leaf (.int .i64 n)])) _ from HW.out) hj
 rw [← hc1] at w0
 have W0 := Lh w0
 have HS := Lh (show m + (c0 + wTs o.kp xs) = m + c0 + wTs o.kp xs by omega)
 rw [HS.out] at hmw ⊢
 have hfo : f < (o.weights.length : Int) := by omega
 clear hw hkj hwl hc1 w0 hfj
 go_enter Tryz.func102, Tryz.ntmps102
 go_upto_region 1 with fail
 obtain ⟨hx1, hB1, hz1⟩ := boxes1 w (.cells #[.int .i64 f, .slice A xs.length c] 32)
 have hx1 : Box2 w.heap.size 32 (.int .i64 f) (.slice A xs.length c) _ := hx1
 generalize w.alloc (.cells #[.int .i64 f, .slice A xs.length c] 32) = w1 at hx1 hB1 hz1 ⊢
 have HX1 := Lh hx1
 have HB1 := Lh hB1
 obtain ⟨x10, x11, -⟩ := hx1.cells
 have ho1 := HO.out.low HB1.out
 have hn1 := HN.out.low HB1.out
 have y2 : w1.cell? ⟨ob, 2, none⟩ = some (.slice (some ⟨wb, wo, none⟩) o.weights.length cw) := ho1.cell 2
 have y3 : w1.cell? ⟨ob, 3, none⟩ = some (.int .i64 o.var) := ho1.cell 3
 have n0 := hn1.cell
 have n1 := hn1.free
 clear hx1 hB1 ho1 hn1
 have z0 : w1.cell? ⟨wb, wo + j, none⟩ = some (.int .i64 (c0 : Nat)) := (HB1.out.cell (p := ⟨wb, wo + j, none⟩) (show wb < w.heap.size by omega)).trans W0.out
 go_wp2_with fail
 have hn2 := (HN.out.low HB1.out).set (.int .i64 ((m : Int) + c0))
 have hu2 : Upd w (w1.setCell ⟨nb, 0, none⟩ (.int .i64 ((m : Int) + c0))) (fun b => b = nb) := (Upd.low HB1.out _).setCell _ _ (.inl rfl)
 have hx2 := HX1.out.upd (upd_set (w := w1) (b := nb) (o := 0) (.int .i64 ((m : Int) + c0))) (by omega)
 generalize w1.setCell ⟨nb, 0, none⟩ (.int .i64 ((m : Int) + c0)) = w2 at hn2 hu2 hx2 ⊢
 have HN2 := Lh hn2
 have HU2 := Lh hu2
 have HX2 := Lh hx2
 clear hn2 hu2 hx2 x10 x11 y2 y3 n0 n1
 go_loopw [28] (fun i wr => ∃ k : Nat, k ≤ xs.length ∧ i = .int .i64 k ∧ Box1 nb 3 (.int .i64 ((m + c0 + wTs o.kp (xs.take k) : Nat) : Int)) wr ∧ Upd w2 wr (fun b => b = nb)) (fun i _ => xs.length - (intOf i).toNat)
 case atStart => exact ⟨0, Nat.zero_le _, rfl, by rw [show (m + c0 + wTs o.kp (xs.take 0) : Nat) = m + c0 by simp [wTs]]; exact HN2.out, Upd.refl _ _⟩
 obtain ⟨k, hkl, rfl, hbox, hur⟩ := hrel
 have hz2 := HU2.out.size
 have hzr := hur.size
 have hzb := HX2.out.lt
 have hwr : Upd w wr (fun b => b = nb) := HU2.out.trans hur (fun _ e => .inl e)
 have hbr := HX2.out.upd hur (by omega)
 obtain ⟨x20, x21, -⟩ := hbr.cells
 have Hwr2 := Lh hwr
 by_cases hlt : k < xs.length
 · obtain ⟨ab, off, f1, us, B1, d1, rfl, hxk, hab, k0, k1, hrd1⟩ := (hwr.keepRd HR.out (by omega) (by rintro k rfl; exact hB)).tm_at hlt
   have hs1 := sizeTs_mem hlt
   have hw1 := wTs_take o.kp hlt
   have hw2 := wTs_take_le o.kp xs (k + 1)
   rw [hxk] at hs1 hw1
   simp only [sizeT] at hs1
   have hwx := Hw.out.args (List.getElem_mem hlt)
   rw [hxk] at hwx
   have hfb := HF.out.upd hwr Hfb.out
   have hflr : fb < wr.heap.size := by omega
   have g0 := hfb.cell
   have hcl := fun (w' : World) (hb : Below wr.heap.size wr w') => Hih.out f1 us (.slice B1 us.length d1) B (m + c0 + wTs o.kp (xs.take k)) w' (by omega) hwx (by omega) (hrd1.low hb (by omega)) (by omega)
    ((hwr.keepRd HW.out (by omega) (by rintro k rfl; exact hB)).low hb (by omega)) ((HO.out.upd hwr Hob.out).low hb) (hbox.low hb) (hfb.low hb)
   have Hcl := Lh hcl
   have Hw1 := Lh hw1
   have Hur := Lh hur
   have Hlo := Lh hwr
   clear hcl hxk hrd1 hwx hfb hbox hur hw1 hw2 hwr hbr
   go_wp2_with fail
   refine (Hcl.out _ (below_box wr _)).mono ?_
   rintro e w6 ⟨rfl, hb6, hu6⟩
   have Hb6 := Lh hb6
   have Hu6 := Lh ((Upd.low (below_box wr (.cells #[.int .i64 f1, .slice B1 us.length d1] 32)) (fun b => b = nb)).trans hu6 (fun _ e => .inl e))
   clear hb6 hu6 Hcl
   go_wp2_with fail
   go_roundw
   case rel => exact ⟨k + 1, by omega, by go_num, by rw [Hw1.out, ← Nat.add_assoc]; exact Hb6.out, Hur.out.trans Hu6.out (fun _ e => .inl e)⟩
   case measure => simp [intOf]; omega
 have htk : xs.take k = xs := List.take_of_length_le (by omega)
 rw [htk] at hbox
 clear htk hur hwr hbr
 have HBX := Lh hbox
 clear hbox
 go_wp2_with fail
 go_end0
 have hbox := HBX.out
 exact weigh_fin Hwr2.out rfl hbox
theorem weigh_any {ar : Int → Option Nat} {o : Od} (hk : KOd ar o) (f : Int) (xs : List Tm) (v2 : Value) (Ap Aw : Option Addr) (cp cw : Nat) (B : Nat) (w : World) (hw : wfT ar (.mk f xs)) (hz : wT o.kp (.mk f xs) ≤ 1000000000) (ho : OdV w B o Ap Aw cp cw) (hr : Rd w B (.sl 2 (encTms xs)) v2) (hB : B ≤ w.heap.size) :
 Calls Tryz.prog 93 #[.agg #[.bool o.lpo, .slice Ap o.prec.length cp, .slice Aw o.weights.length cw, .int .i64 o.var], .agg #[.int .i64 f, v2]] w (IntRes (wT o.kp (.mk f xs)) w) := by
 obtain ⟨A, c, rfl, hc, hn, hm⟩ := hr.tm_form
 have HR := Lh hr
 have HO := Lh ho
 have Hw := Lh hw
 have Hk := Lh hk
 clear hr ho hw hk
 go_enter Tryz.func93, Tryz.ntmps93
 go_upto_region 2 with fail
 obtain ⟨hx1, hx2, hx3, hB3, hz3⟩ := boxes3 w (.cells #[.bool o.lpo, .slice Ap o.prec.length cp, .slice Aw o.weights.length cw, .int .i64 o.var] 38) (.cells #[.int .i64 f, .slice A xs.length c] 32) (.cells #[.int .i64 0] 3)
 generalize ((w.alloc (.cells #[.bool o.lpo, .slice Ap o.prec.length cp, .slice Aw o.weights.length cw, .int .i64 o.var] 38)).alloc (.cells #[.int .i64 f, .slice A xs.length c] 32)).alloc (.cells #[.int .i64 0] 3) = w3 at hx1 hx2 hx3 hB3 hz3 ⊢
 have hx1 : BoxN w.heap.size 38 #[.bool o.lpo, .slice Ap o.prec.length cp, .slice Aw o.weights.length cw, .int .i64 o.var] w3 := hx1
 have hx2 : Box2 (w.heap.size + 1) 32 (.int .i64 f) (.slice A xs.length c) w3 := hx2
 have hx3 : Box1 (w.heap.size + 1 + 1) 3 (.int .i64 0) w3 := hx3
 have HB3 := Lh hB3
 have HX1 := Lh hx1
 have HX2 := Lh hx2
 have HX3 := Lh hx3
 have hz3l : w.heap.size + 1 + 1 < w3.heap.size := by omega
 have hz3m : w.heap.size < w3.heap.size := by omega
 have hz3k : w.heap.size + 1 < w3.heap.size := by omega
 clear hx1 hx2 hx3 hB3 hz3
 go_upto_region 4 with fail
 obtain ⟨hx4, hB4, hz4⟩ := boxes1 w3 (.cells #[.func (.func 102) #[] #[.pointer (some ⟨w.heap.size, 0, none⟩), .pointer (some ⟨w.heap.size + 1 + 1, 0, none⟩), .pointer (some ⟨w3.heap.size, 0, none⟩)]] 146)
 generalize w3.alloc (.cells #[.func (.func 102) #[] #[.pointer (some ⟨w.heap.size, 0, none⟩), .pointer (some ⟨w.heap.size + 1 + 1, 0, none⟩), .pointer (some ⟨w3.heap.size, 0, none⟩)]] 146) = w4 at hx4 hB4 hz4 ⊢
 have hx4 : Box1 w3.heap.size 146 _ w4 := hx4
 have hlow : Below w.heap.size w w4 := HB3.out.trans (hB4.mono (by omega))
 have c4 := hx4.cell
 have hb2 := HX2.out.low hB4
 obtain ⟨c20, c21, -⟩ := hb2.cells
 have hcl := weigh1_any Hk.out w.heap.size (w.heap.size + 1 + 1) w3.heap.size Ap Aw cp cw (by omega) (by omega) (sizeTs xs + 1) f xs (.slice A xs.length c) B 0 w4 (Nat.lt_succ_self _) Hw.out (by omega) (HR.out.low hlow hB) (by omega) (HO.out.w.low hlow hB) (HX1.out.low hB4) (HX3.out.low hB4) hx4
 rw [Nat.zero_add] at hcl
 have Hcl := Lh hcl
 have Hlow := Lh hlow
 have hz4l : w.heap.size + 1 + 1 < w4.heap.size := by omega
 clear hcl hx4 hb2 hB4 hlow hz4
 go_wp2_with fail
 refine Hcl.out.mono ?_
 rintro e w6 ⟨rfl, hb6, hu6⟩
 have c6 := hb6.cell
 have Hu6 := Lh hu6
 clear hb6 hu6 Hcl
 go_wp2_with fail
 go_ret
 exact ⟨rfl, Hlow.out.trans (Hu6.out.toLow (by omega) (by rintro k rfl; omega))⟩
theorem arnd_one {f v : Int} (x : Tm) : arnd f v (.mk f [x]) = arnd f v x := by rw [arnd, if_pos rfl]
theorem arnd_end {f v g : Int} {xs : List Tm} (h : ¬ (g = f ∧ xs.length = 1)) : arnd f v (.mk g xs) = decide (g = v) := by
 match xs with
 | [] => rw [arnd]; simp
 | [x] => rw [arnd, if_neg (fun e => h ⟨e, rfl⟩)]
 | x :: y :: zs => rw [arnd]; simp
theorem around_any (f v : Int) (xs : List Tm) (v2 : Value) (B : Nat) (w : World) (hr : Rd w B (.sl 2 (encTms xs)) v2) (hB : B ≤ w.heap.size) :
 Calls Tryz.prog 94 #[.agg #[.int .i64 f, v2], .int .i64 v] w (BoolRes (arnd f v (.mk f xs)) w) := by
 obtain ⟨A, c, rfl, hc, hn, hm⟩ := hr.tm_form
 have HR := Lh hr
 clear hr
 obtain ⟨r, hr⟩ : ∃ r, arnd f v (.mk f xs) = r := ⟨_, rfl⟩
 rw [hr]
 have Hr := Lh hr
 clear hr
 go_enter Tryz.func94, Tryz.ntmps94
 go_upto_region 1 with fail
 obtain ⟨hx1, hB1, hz1⟩ := boxes1 w (.cells #[.int .i64 f, .slice A xs.length c] 32)
 have hx1 : Box2 w.heap.size 32 (.int .i64 f) (.slice A xs.length c) _ := hx1
 generalize w.alloc (.cells #[.int .i64 f, .slice A xs.length c] 32) = w1 at hx1 hB1 hz1 ⊢
 have HX1 := Lh hx1
 have HB1 := Lh hB1
 have hbl : w.heap.size < w1.heap.size := by omega
 obtain ⟨x10, x11, -⟩ := hx1.cells
 clear hx1 hB1 hz1
 go_wp2_with fail
 go_loopg [] (sizeTs xs) (fun k wr => ∃ g us A' c', sizeTs us ≤ k ∧ Box2 w.heap.size 32 (.int .i64 g) (.slice A' us.length c') wr ∧ Rd wr B (.sl 2 (encTms us)) (.slice A' us.length c') ∧ arnd f v (.mk g us) = r ∧ Upd w1 wr (fun b => b = w.heap.size))
 case atStart => exact ⟨f, xs, A, c, Nat.le_refl _, HX1.out, HR.out.low HB1.out hB, Hr.out, Upd.refl _ _⟩
 obtain ⟨g, us, A', c', hk, hbx, hrd, har, hur⟩ := hrel
 have hzr := hur.size
 have hwr : Upd w wr (fun b => b = w.heap.size) := (Upd.low HB1.out _).trans hur (fun _ e => .inl e)
 have hlr : w.heap.size < wr.heap.size := by omega
 obtain ⟨x20, x21, x22⟩ := hbx.cells
 have HBX := Lh hbx
 have HRD := Lh hrd
 have HAR := Lh har
 have HUR := Lh hur
 have HWR := Lh hwr
 clear hbx hrd har hur hwr
 by_cases hgo : g = f ∧ us.length = 1
 · obtain ⟨rfl, h1⟩ := hgo
   have h0 : 0 < us.length := by omega
   obtain ⟨ab, off, f1, zs, B1, d1, rfl, hxk, hab, k0, k1, hrd1⟩ := HRD.out.tm_at h0
   have hs1 := sizeTs_mem h0
   have k0 : wr.cell? ⟨ab, off, none⟩ = some (.int .i64 f1) := by simpa using k0
   have k1 : wr.cell? ⟨ab, off + 1, none⟩ = some (.slice B1 zs.length d1) := by simpa using k1
   rw [hxk] at hs1
   simp only [sizeT] at hs1
   have hus : us = [.mk f1 zs] := by
    obtain ⟨x, hx⟩ := List.length_eq_one_iff.1 h1
    subst hx
    simpa using hxk
   have hn : arnd g v (.mk f1 zs) = r := by rw [← HAR.out, hus, arnd_one]
   have q : (((us.length : Nat) : Int) == 1) = true := by rw [h1]; rfl
   have Hn := Lh hn
   have Hrd1 := Lh hrd1
   clear hus hn h1 hxk hrd1
   go_wp2_with fail
   have hset := HBX.out.set (.int .i64 f1) (.slice B1 zs.length d1)
   have hu2 := HWR.out.trans hset.2 (fun _ e => .inl e)
   have hu3 := HUR.out.trans hset.2 (fun _ e => .inl e)
   have hrd2 := hset.2.keepRd Hrd1.out (by omega) (by rintro k rfl; omega)
   have Hb := Lh hset.1
   have Hu3 := Lh hu3
   have Hrd2 := Lh hrd2
   clear hset hu2 hu3 hrd2
   go_roundg (sizeTs zs)
   case measure => omega
   case rel => exact ⟨f1, zs, B1, d1, Nat.le_refl _, Hb.out, Hrd2.out, Hn.out, Hu3.out⟩
 have hend := arnd_end (v := v) hgo
 rw [HAR.out] at hend
 have Hend := Lh hend
 clear hend
 by_cases hgf : g = f
 · have h1 : ¬ us.length = 1 := fun e => hgo ⟨hgf, e⟩
   have q : (((us.length : Nat) : Int) == 1) = false := by rw [beq_eq_false_iff_ne]; omega
   have q2 : (g == f) = true := by rw [beq_iff_eq]; exact hgf
   clear h1 hgo hgf
   go_wp2_with fail
   go_ret
   rw [Hend.out]
   exact ⟨rfl, HWR.out.toLow (Nat.le_refl _) (by rintro k rfl; omega)⟩
 have q2 : (g == f) = false := by rw [beq_eq_false_iff_ne]; exact hgf
 clear hgo hgf
 go_wp2_with fail
 go_ret
 rw [Hend.out]
 exact ⟨rfl, HWR.out.toLow (Nat.le_refl _) (by rintro k rfl; omega)⟩
theorem turned_ix (r : Rl) (w : World) : (Instr.index 147 (.agg #[.int .i64 0, .int .i64 3, .int .i64 2, .int .i64 1]) (.int .i64 r.int)).run Tryz.prog w = .ok (.int .i64 r.turn.int) w := by cases r <;> kernel_rfl
theorem turned_any (r : Rl) (w : World) : Calls Tryz.prog 95 #[.int .i64 r.int] w (fun e w' => e = .returned (.int .i64 r.turn.int) ∧ w = w') := by
 have h := turned_ix r w
 generalize r.int = i at h ⊢
 generalize r.turn.int = j at h ⊢
 go_enter Tryz.func95, Tryz.ntmps95
 go_wp2_with fail
 go_ret
 exact ⟨rfl, rfl⟩
theorem findNow_none {K : Type} {d : TypeDesc} {enc : K → Value} (hn : ∀ x y, Instr.sameNow d (enc x) (enc y) = none) (x : K) (kv : List (K × Value)) (es : List MapEntry) (i : Nat) (h : es.map (fun e => (e.key, e.val)) = kv.map (fun p => (enc p.1, p.2))) :
 Instr.findNow d (enc x) es i = none ∨ (es = [] ∧ kv = []) := by
 cases es with
 | nil => right; exact ⟨rfl, by simpa using h.symm⟩
 | cons e es =>
   left
   cases kv with
   | nil => simp at h
   | cons p kv =>
     simp only [List.map_cons, List.cons.injEq, Prod.mk.injEq] at h
     simp [Instr.findNow, h.1.1, hn]
section
variable {K : Type} [DecidableEq K]
def findIx (x : K) : List (K × Value) → Nat → Option (Nat × Value)
 | [], _ => none
 | p :: r, i => if x = p.1 then some (i, p.2) else findIx x r (i + 1)
structure KeyTy (P : Program) (k : TypeId) (enc : K → Value) : Prop where
 check : ∀ (em : Bool) (w : World) (x : K), (Instr.checkKey em 10000 k (enc x)).run P w = .ok () w
 find : ∀ (w : World) (x : K) (kv : List (K × Value)) (es : List MapEntry), es.map (fun e => (e.key, e.val)) = kv.map (fun p => (enc p.1, p.2)) → (Instr.findKey k (enc x) es).run P w = .ok (findIx x kv 0) w
 stays : ∀ (w : World) (x : K), (Instr.keyThatStays (enc x) (enc x)).run P w = .ok (enc x) w
theorem findAsking_run {P : Program} {k : TypeId} {enc : K → Value} (heq : ∀ (w : World) (x y : K), (Op.equal k (enc x) (enc y)).run P w = .ok (decide (x = y)) w) (w : World) (x : K) :
 ∀ (kv : List (K × Value)) (es : List MapEntry) (i : Nat), es.map (fun e => (e.key, e.val)) = kv.map (fun p => (enc p.1, p.2)) → (Instr.findAsking k (enc x) es i).run P w = .ok (findIx x kv i) w
 | [], es, i, h => by
   have : es = [] := by simpa using h
   subst this
   simp [Instr.findAsking, findIx]
 | p :: kv, [], i, h => by simp at h
 | p :: kv, e :: es, i, h => by
   simp only [List.map_cons, List.cons.injEq, Prod.mk.injEq] at h
   obtain ⟨⟨h1, h2⟩, h3⟩ := h
   simp only [Instr.findAsking, Sem.run_bind, h1, heq, Result.andThen_ok, findIx]
   by_cases hx : x = p.1
   · simp [hx, h2]
   simp only [hx, decide_false, Bool.false_eq_true, if_false]
   exact findAsking_run heq w x kv es (i + 1) h3
theorem findNow_some {d : TypeDesc} {enc : K → Value} (hn : ∀ x y, Instr.sameNow d (enc x) (enc y) = some (decide (x = y))) (x : K) : ∀ (kv : List (K × Value)) (es : List MapEntry) (i : Nat), es.map (fun e => (e.key, e.val)) = kv.map (fun p => (enc p.1, p.2)) →
 Instr.findNow d (enc x) es i = some (findIx x kv i)
 | [], es, i, h => by
   have : es = [] := by simpa using h
   subst this
   simp [Instr.findNow, findIx]
 | p :: kv, [], i, h => by simp at h
 | p :: kv, e :: es, i, h => by
   simp only [List.map_cons, List.cons.injEq, Prod.mk.injEq] at h
   obtain ⟨⟨h1, h2⟩, h3⟩ := h
   simp only [Instr.findNow, h1, hn, findIx]
   by_cases hx : x = p.1
   · simp [hx, h2]
   simp only [hx, decide_false, if_false]
   exact findNow_some hn x kv es (i + 1) h3
theorem keyTy_asking {P : Program} {k : TypeId} {enc : K → Value} {d : TypeDesc} (hd : P.underlying k = some d) (hn : ∀ x y, Instr.sameNow d (enc x) (enc y) = none)
 (heq : ∀ (w : World) (x y : K), (Op.equal k (enc x) (enc y)).run P w = .ok (decide (x = y)) w)
 (hc : ∀ (em : Bool) (w : World) (x : K), (Instr.checkKey em 10000 k (enc x)).run P w = .ok () w) (hs : ∀ x, Instr.sameBits 10000 (enc x) (enc x) = true) : KeyTy P k enc where
 check := hc
 find w x kv es h := by
  simp only [Instr.findKey, Sem.run_bind, run_underlying hd, Result.andThen_ok]
  rcases findNow_none hn x kv es 0 h with h' | ⟨rfl, rfl⟩
  · rw [h']; exact findAsking_run heq w x kv es 0 h
  simp [Instr.findNow, findIx]
 stays w x := by simp [Instr.keyThatStays, hs]
theorem keyTy_now {P : Program} {k : TypeId} {enc : K → Value} {d : TypeDesc} (hd : P.underlying k = some d) (hn : ∀ x y, Instr.sameNow d (enc x) (enc y) = some (decide (x = y)))
 (hc : ∀ (em : Bool) (w : World) (x : K), (Instr.checkKey em 10000 k (enc x)).run P w = .ok () w) (hs : ∀ x, Instr.sameBits 10000 (enc x) (enc x) = true) : KeyTy P k enc where
 check := hc
 find w x kv es h := by
  simp only [Instr.findKey, Sem.run_bind, run_underlying hd, Result.andThen_ok]
  rw [findNow_some hn x kv es 0 h]; simp
 stays w x := by simp [Instr.keyThatStays, hs]
def MapF (w : World) (g : Nat) (enc : K → Value) (f : K → Option Value) : Prop :=
 ∃ (es : Array MapEntry) (clock : Nat) (kv : List (K × Value)), w.heap[g]? = some (.map es clock) ∧ es.toList.map (fun e => (e.key, e.val)) = kv.map (fun p => (enc p.1, p.2)) ∧
   (∀ x, f x = (findIx x kv 0).map (·.2)) ∧ (∀ e ∈ es.toList, e.born < clock) ∧ (es.toList.map (·.born)).Nodup ∧ (kv.map (·.1)).Nodup
variable {w w' : World} {g : Nat} {enc : K → Value} {f : K → Option Value}
theorem MapF.lt (h : MapF w g enc f) : g < w.heap.size := by obtain ⟨es, c, kv, hg, _⟩ := h; exact (Array.getElem?_eq_some_iff.1 hg).1
theorem MapF.made (w : World) (enc : K → Value) : MapF (w.alloc (.map #[] 0)) w.heap.size enc (fun _ => none) :=
 ⟨#[], 0, [], (MapKept.heap_alloc w _).1, rfl, fun _ => rfl, by simp, by simp, by simp⟩
theorem MapF.upd {F : Nat → Prop} (h : MapF w g enc f) (hu : Upd w w' F) (hF : ¬ F g) : MapF w' g enc f := by
 have hl := h.lt
 obtain ⟨es, c, kv, hg, h1, h2⟩ := h
 exact ⟨es, c, kv, (hu.block g hl hF).trans hg, h1, h2⟩
theorem MapF.low (h : MapF w g enc f) (hb : Below w.heap.size w w') : MapF w' g enc f := h.upd (Upd.low hb (fun _ => False)) (by simp)
theorem MapF.alloc (h : MapF w g enc f) (o : Obj) : MapF (w.alloc o) g enc f := h.low (below_box w o)
theorem MapF.drewN (h : MapF w g enc f) (n : Nat) : MapF (w.drewN n) g enc f := h
theorem MapF.congr {f' : K → Option Value} (h : MapF w g enc f) (hf : ∀ x, f' x = f x) : MapF w g enc f' := by
 obtain ⟨es, c, kv, hg, h1, h2⟩ := h
 exact ⟨es, c, kv, hg, h1, fun x => (hf x).trans (h2.1 x), h2.2⟩
theorem findIx_lt (x : K) : ∀ (kv : List (K × Value)) (i j : Nat) (v : Value), findIx x kv i = some (j, v) → i ≤ j ∧ j < i + kv.length ∧ kv[j - i]? = some (x, v)
 | [], i, j, v, h => by simp [findIx] at h
 | p :: kv, i, j, v, h => by
   unfold findIx at h
   split at h
   · rename_i hx
     simp only [Option.some.injEq, Prod.mk.injEq] at h
     obtain ⟨rfl, rfl⟩ := h
     refine ⟨Nat.le_refl _, by simp, ?_⟩
     simp [hx]
   obtain ⟨h1, h2, h3⟩ := findIx_lt x kv (i + 1) j v h
   refine ⟨by omega, by simp; omega, ?_⟩
   have : j - i = (j - (i + 1)) + 1 := by omega
   rw [this, List.getElem?_cons_succ]
   exact h3
theorem findIx_none {x : K} : ∀ {kv : List (K × Value)} {i : Nat}, findIx x kv i = none → ∀ p ∈ kv, p.1 ≠ x
 | [], i, h, p, hp => by cases hp
 | q :: kv, i, h, p, hp => by
   unfold findIx at h
   split at h
   · cases h
   rename_i hne
   rcases List.mem_cons.1 hp with rfl | hp
   · exact fun e => hne e.symm
   exact findIx_none h p hp
theorem findIx_append (x : K) (p : K × Value) : ∀ (kv : List (K × Value)) (i : Nat), ((findIx x (kv ++ [p]) i).map (·.2)) = (match (findIx x kv i).map (·.2) with | some v => some v | none => if x = p.1 then some p.2 else none)
 | [], i => by simp only [List.nil_append, findIx]; split <;> simp_all
 | q :: kv, i => by
   simp only [List.cons_append, findIx]
   split
   · rfl
   exact findIx_append x p kv (i + 1)
theorem findIx_set (x y : K) (v : Value) : ∀ (kv : List (K × Value)) (i j : Nat) (u : Value), findIx y kv i = some (j, u) →
 (findIx x (kv.set (j - i) (y, v)) i).map (·.2) = if x = y then some v else (findIx x kv i).map (·.2)
 | [], i, j, u, h => by simp [findIx] at h
 | p :: kv, i, j, u, h => by
   unfold findIx at h
   split at h
   · rename_i hy
     simp only [Option.some.injEq, Prod.mk.injEq] at h
     obtain ⟨rfl, rfl⟩ := h
     simp only [Nat.sub_self, List.set_cons_zero, findIx]
     by_cases hx : x = y
     · simp [hx]
     have : ¬ x = p.1 := fun e => hx (e.trans hy.symm)
     simp [hx, this]
   rename_i hy
   obtain ⟨h1, _, _⟩ := findIx_lt y kv (i + 1) j u h
   have hj : j - i = (j - (i + 1)) + 1 := by omega
   rw [hj, List.set_cons_succ]
   have ih := findIx_set x y v kv (i + 1) j u h
   simp only [findIx]
   split
   · rename_i hx
     have : ¬ x = y := fun e => hy (e.symm.trans hx)
     simp [this]
   exact ih
variable {P : Program} {t k e : TypeId}
theorem MapF.lookup (h : MapF w g enc f) (hT : KeyTy P k enc) (ht : P.underlying t = some (.map k e)) {z : Value} (hz : (zeroValue e).run P w = .ok z w) (x : K) :
 (Instr.lookup t (.map (some g)) (enc x) false).run P w = .ok ((f x).getD z) w := by
 obtain ⟨es, c, kv, hg, h1, h2, -⟩ := h
 rw [h2 x]
 simp only [Instr.lookup, Sem.run_bind, run_underlying ht, Result.andThen_ok, MapKept.run_getObj_map hg, Sem.run_pure, hT.check, hT.find w x kv es.toList h1]
 cases hf : findIx x kv 0 with
 | none => simp [hz]
 | some p => simp
theorem MapF.lookup_ok (h : MapF w g enc f) (hT : KeyTy P k enc) (ht : P.underlying t = some (.map k e)) {z : Value} (hz : (zeroValue e).run P w = .ok z w) (x : K) :
 (Instr.lookup t (.map (some g)) (enc x) true).run P w = .ok (.tuple #[(f x).getD z, .bool (f x).isSome]) w := by
 obtain ⟨es, c, kv, hg, h1, h2, -⟩ := h
 rw [h2 x]
 simp only [Instr.lookup, Sem.run_bind, run_underlying ht, Result.andThen_ok, MapKept.run_getObj_map hg, Sem.run_pure, hT.check, hT.find w x kv es.toList h1]
 cases hf : findIx x kv 0 with
 | none => simp [hz]
 | some p => simp
theorem upd_setMap (w : World) (g : Nat) (es : Array MapEntry) (c : Nat) : Upd w { w with heap := w.heap.setIfInBounds g (.map es c) } (fun k => k = g) :=
 ⟨rfl, rfl, rfl, by simp, fun k _ hk => by simp only [Array.getElem?_setIfInBounds]; rw [if_neg (fun e => hk e.symm)]⟩
theorem MapF.update (h : MapF w g enc f) (hT : KeyTy P k enc) (ht : P.underlying t = some (.map k e)) (x : K) (v : Value) :
 ∃ w', (Instr.mapUpdate t (.map (some g)) (enc x) v).run P w = .ok () w' ∧ MapF w' g enc (fun y => if y = x then some v else f y) ∧ Upd w w' (fun k => k = g) := by
 have hlt := h.lt
 obtain ⟨es, c, kv, hg, h1, h2, h3, h4, h5⟩ := h
 have hgs : ∀ (es' : Array MapEntry) (c' : Nat), ({ w with heap := w.heap.setIfInBounds g (.map es' c') } : World).heap[g]? = some (.map es' c') := by intro es' c'; simp [hlt]
 cases hf : findIx x kv 0 with
 | none =>
   refine ⟨_, ?_, ⟨es.push { key := enc x, val := v, born := c }, c + 1, kv ++ [(x, v)], hgs _ _, ?_, ?_, ?_, ?_, ?_⟩, upd_setMap w g _ _⟩
   · simp only [Instr.mapUpdate, Sem.run_bind, run_underlying ht, Result.andThen_ok, MapKept.run_getObj_map hg, hT.check, hT.find w x kv es.toList h1, hf]
     exact MapKept.run_setObj_map _ hg
   · simp [h1]
   · intro y
     show (if y = x then some v else f y) = _
     rw [findIx_append, h2 y]
     by_cases hy : y = x
     · subst hy; rw [hf]; simp
     simp only [hy, if_false]
     cases (findIx y kv 0).map (·.2) <;> rfl
   · intro e he
     simp only [Array.toList_push, List.mem_append, List.mem_singleton] at he
     rcases he with he | rfl
     · have := h3 e he; omega
     simp
   · rw [Array.toList_push, List.map_append, List.map_cons, List.map_nil, List.nodup_append]
     refine ⟨h4, by simp, fun a ha b hb => ?_⟩
     obtain ⟨e, he, rfl⟩ := List.mem_map.1 ha
     have := h3 e he
     simp at hb
     omega
   rw [List.map_append, List.map_cons, List.map_nil, List.nodup_append]
   refine ⟨h5, by simp, fun a ha b hb => ?_⟩
   simp at hb
   rintro rfl
   obtain ⟨q, hq, e⟩ := List.mem_map.1 ha
   rw [hb] at e
   exact findIx_none hf q hq e
 | some p =>
   obtain ⟨j, u⟩ := p
   obtain ⟨_, hj, hkv⟩ := findIx_lt x kv 0 j u hf
   simp only [Nat.zero_add, Nat.sub_zero] at hj hkv
   have hlen : es.size = kv.length := by have := congrArg List.length h1; simpa using this
   have hje : j < es.size := by omega
   have hkey : es[j].key = enc x := by
    have := congrArg (fun l => l[j]?) h1
    simp only [List.getElem?_map, Array.getElem?_toList, hkv, Array.getElem?_eq_getElem hje, Option.map_some, Option.some.injEq, Prod.mk.injEq] at this
    exact this.1
   refine ⟨_, ?_, ⟨es.modify j (fun e => { e with key := enc x, val := v }), c, kv.set j (x, v), hgs _ _, ?_, ?_, ?_, ?_, ?_⟩, upd_setMap w g _ _⟩
   · simp only [Instr.mapUpdate, Sem.run_bind, run_underlying ht, Result.andThen_ok, MapKept.run_getObj_map hg, hT.check, hT.find w x kv es.toList h1, hf, Array.getElem?_eq_getElem hje, Option.map_some, Option.getD_some, hkey, hT.stays]
     exact MapKept.run_setObj_map _ hg
   · apply List.ext_getElem?
     intro i
     have hi := congrArg (fun l => l[i]?) h1
     simp only [List.getElem?_map, Array.getElem?_toList] at hi ⊢
     rw [Array.getElem?_modify, List.getElem?_set]
     by_cases hij : j = i
     · subst hij
       simp [hje, hj]
     simp [hij, hi]
   · intro y
     show (if y = x then some v else f y) = _
     have := findIx_set y x v kv 0 j u hf
     rw [Nat.sub_zero] at this
     rw [this, h2 y]
   · intro e he
     obtain ⟨i, hi, rfl⟩ := List.mem_iff_getElem.1 he
     have hi' : i < es.size := by simpa using hi
     have := h3 es[i] (by simp)
     simp only [Array.getElem_toList, Array.getElem_modify]
     split <;> simpa using this
   · have : (es.modify j (fun e => { e with key := enc x, val := v })).toList.map (·.born) = es.toList.map (·.born) := by
      apply List.ext_getElem?
      intro i
      simp only [List.getElem?_map, Array.getElem?_toList, Array.getElem?_modify]
      by_cases hij : j = i
      · subst hij; simp [Array.getElem?_eq_getElem hje]
      simp [hij]
     rw [this]
     exact h4
   have : (kv.set j (x, v)).map (·.1) = kv.map (·.1) := by
    apply List.ext_getElem?
    intro i
    simp only [List.getElem?_map, List.getElem?_set]
    by_cases hij : j = i
    · subst hij
      rw [List.getElem?_eq_getElem hj] at hkv
      injection hkv with hkv
      simp [hj, hkv]
    simp [hij]
   rw [this]
   exact h5
theorem wpList_mapStore {ops : Array Oper} {rest : List Oper} {o : Oper} {a : Act} {Q : Exit → Act → World → Prop} (hgd : o.guard = none) (mo ko vo : Operand)
 (ho : o.op = .mapUpdate t mo ko vo) (hT : KeyTy P k enc) (ht : P.underlying t = some (.map k e)) (hm : a.eval mo = .map (some g)) (x : K) (hk : a.eval ko = enc x) (v : Value) (hv : a.eval vo = v) (h : MapF w g enc f)
 (hK : ∀ w', MapF w' g enc (fun y => if y = x then some v else f y) → Upd w w' (fun k => k = g) → wpList P ops Q rest (a.put o.dst undef) w') : wpList P ops Q (o :: rest) a w := by
 refine wpList_plain hgd fun K hKK => ?_
 obtain ⟨w', hr, hf', hu⟩ := h.update hT ht x v
 unfold Oper.wp execOp
 simp only [ho, Sem.run_bind, hm, hk, hv, hr, Result.andThen_ok, Sem.run_pure]
 exact hKK _ _ (hK w' hf' hu)
end
def intV (n : Int) : Value := .int .i64 n
theorem intK : KeyTy Tryz.prog 3 intV := by
 refine keyTy_now (d := .int .i64) (by kernel_rfl) ?_ ?_ ?_
 · intro x y
   simp only [intV, Instr.sameNow, if_true, Option.some.injEq]
   by_cases h : x = y
   · subst h; simp
   simp [h]
 · intro em w x
   exact MapKept.run_checkKey (P := Tryz.prog) (w := w) (kt := 3) (k := .int .i64 x) Tryz.underlying3 (by simp [MapKept.IsKey]) em 9999
 intro x
 obtain ⟨n, hn⟩ : ∃ n, 10000 = n + 2 := ⟨9998, rfl⟩
 rw [hn]
 simp [intV, Instr.sameBits]
theorem zeroI (w : World) : (zeroValue 3).run Tryz.prog w = .ok (.int .i64 0) w := by kernel_rfl
open Go.ChangeMaps (setBlock)
section
variable {P : Program} {K : Type} [DecidableEq K] {t k e : TypeId} {w w' : World} {g : Nat} {enc : K → Value} {f : K → Option Value}
theorem countP_lt {α : Type} {p q : α → Bool} : ∀ {l : List α}, (∀ x ∈ l, q x = true → p x = true) → ∀ {a : α}, a ∈ l → p a = true → q a = false → l.countP q < l.countP p
 | x :: l, h, a, ha, hp, hq => by
   have hle : l.countP q ≤ l.countP p := List.countP_mono_left fun y hy => h y (List.mem_cons_of_mem _ hy)
   rcases List.mem_cons.1 ha with rfl | ha
   · rw [List.countP_cons_of_pos hp, List.countP_cons_of_neg (by simp [hq])]
     omega
   have ih := countP_lt (fun y hy => h y (List.mem_cons_of_mem _ hy)) ha hp hq
   have h1 := h x (List.mem_cons_self ..)
   simp only [List.countP_cons]
   by_cases hx : q x = true
   · rw [if_pos hx, if_pos (h1 hx)]; omega
   rw [if_neg hx]; split <;> omega
theorem leftOf_lt {es : Array MapEntry} {seen : Array Nat} {i : Nat} (hi : i < es.size) (hns : seen.contains es[i].born = false) : (leftOf es (seen.push es[i].born)).size < (leftOf es seen).size := by
 unfold leftOf
 rw [← Array.countP_eq_size_filter, ← Array.countP_eq_size_filter, ← Array.countP_toList, ← Array.countP_toList]
 refine countP_lt (a := es[i]) (fun x _ h => ?_) (by simp) (by simpa using hns) (by simp)
 simp at h ⊢
 exact h.1
theorem findIx_of_mem {x : K} {v : Value} : ∀ {kv : List (K × Value)} {i : Nat}, (kv.map (·.1)).Nodup → (x, v) ∈ kv → ((findIx x kv i).map (·.2)) = some v
 | p :: kv, i, hn, hm => by
   rw [List.map_cons, List.nodup_cons] at hn
   unfold findIx
   rcases List.mem_cons.1 hm with rfl | hm
   · simp
   have : x ≠ p.1 := fun e => hn.1 (e ▸ List.mem_map.2 ⟨_, hm, rfl⟩)
   rw [if_neg this]
   exact findIx_of_mem hn.2 hm
def RangeF (w : World) (b r : Nat) (enc : K → Value) (f : K → Option Value) (done : K → Prop) (cnt : Nat) : Prop :=
 ∃ (es : Array MapEntry) (clock : Nat) (kv : List (K × Value)) (seen : Array Nat), w.heap[b]? = some (.map es clock) ∧ es.toList.map (fun e => (e.key, e.val)) = kv.map (fun p => (enc p.1, p.2)) ∧
   (∀ x, f x = (findIx x kv 0).map (·.2)) ∧ (∀ e ∈ es.toList, e.born < clock) ∧ (es.toList.map (·.born)).Nodup ∧ (kv.map (·.1)).Nodup ∧
   w.heap[r]? = some (.mapIter (some b) clock seen clock) ∧ (leftOf es seen).size = cnt ∧ (∀ i (h : i < es.size) (h' : i < kv.length), seen.contains es[i].born = true → done kv[i].1)
theorem RangeF.map {b r cnt : Nat} {done : K → Prop} (h : RangeF w b r enc f done cnt) : MapF w b enc f := by
 obtain ⟨es, c, kv, seen, hg, h1, h2, h3, h4, h5, _⟩ := h
 exact ⟨es, c, kv, hg, h1, h2, h3, h4, h5⟩
theorem RangeF.lt {b r cnt : Nat} {done : K → Prop} (h : RangeF w b r enc f done cnt) : r < w.heap.size := by
 obtain ⟨es, c, kv, seen, hg, h1, h2, h3, h4, h5, hr, _⟩ := h
 exact (Array.getElem?_eq_some_iff.1 hr).1
theorem RangeF.upd {b r cnt : Nat} {done : K → Prop} {F : Nat → Prop} (h : RangeF w b r enc f done cnt) (hu : Upd w w' F) (hb : ¬ F b) (hr : ¬ F r) : RangeF w' b r enc f done cnt := by
 have h1 := h.map.lt
 have h2 := h.lt
 obtain ⟨es, c, kv, seen, hg, k1, k2, k3, k4, k5, k6, k7⟩ := h
 exact ⟨es, c, kv, seen, (hu.block b h1 hb).trans hg, k1, k2, k3, k4, k5, (hu.block r h2 hr).trans k6, k7⟩
theorem RangeF.low {b r cnt : Nat} {done : K → Prop} (h : RangeF w b r enc f done cnt) (hb : Below w.heap.size w w') : RangeF w' b r enc f done cnt := h.upd (Upd.low hb (fun _ => False)) id id
theorem MapF.range (h : MapF w g enc f) (ht : P.underlying t = some (.map k e)) :
 ∃ w' cnt, (Instr.range t (.map (some g))).run P w = .ok (.pointer (some ⟨w.heap.size, 0, none⟩)) w' ∧ RangeF w' g w.heap.size enc f (fun _ => False) cnt ∧ Below w.heap.size w w' ∧ w'.heap.size = w.heap.size + 1 := by
 have hlt := h.lt
 obtain ⟨es, c, kv, hg, h1, h2, h3, h4, h5⟩ := h
 refine ⟨_, _, run_range_map w t k e g es c ht hg, ⟨es, c, kv, #[], ((MapKept.heap_alloc w _).2 g hlt).trans hg, h1, h2, h3, h4, h5, (MapKept.heap_alloc w _).1, rfl, fun i hi hi' hs => by simp at hs⟩, below_box w _, by simp⟩
theorem RangeF.next {b r cnt : Nat} {done : K → Prop} (h : RangeF w b r enc f done cnt) (ty : TypeId) :
 ((∀ x v, f x = some v → done x) ∧ (Instr.next (.pointer (some ⟨r, 0, none⟩)) false ty).run P w = .ok (.tuple #[.bool false]) w) ∨
 ∃ x v w' cnt', f x = some v ∧ (Instr.next (.pointer (some ⟨r, 0, none⟩)) false ty).run P w = .ok (.tuple #[.bool true, enc x, v]) w' ∧ RangeF w' b r enc f (fun y => done y ∨ y = x) cnt' ∧ cnt' < cnt ∧ Upd w w' (fun k => k = r) ∧
   (Instr.entry (.pointer (some ⟨r, 0, none⟩))).run P w' = .ok (.tuple #[enc x, v]) w' := by
 have hrl := h.lt
 obtain ⟨es, c, kv, seen, hg, h1, h2, h3, h4, h5, hr, hc, hd⟩ := h
 have hlen : es.size = kv.length := by have := congrArg List.length h1; simpa using this
 have hat : ∀ i (hi : i < es.size) (hi' : i < kv.length), es[i].key = enc kv[i].1 ∧ es[i].val = kv[i].2 := by
  intro i hi hi'
  have := congrArg (fun l => l[i]?) h1
  simp only [List.getElem?_map, Array.getElem?_toList, Array.getElem?_eq_getElem hi, List.getElem?_eq_getElem hi', Option.map_some, Option.some.injEq, Prod.mk.injEq] at this
  exact this
 rcases run_next_at (P := P) w ty r b c c seen es c hr hg h3 (Nat.le_refl _) with ⟨h0, hrun⟩ | ⟨en, he, w1, hal, hrun⟩
 · refine .inl ⟨fun x v hx => ?_, hrun⟩
   rw [h2 x] at hx
   cases hf : findIx x kv 0 with
   | none => rw [hf] at hx; cases hx
   | some p =>
     obtain ⟨j, u⟩ := p
     obtain ⟨_, hj, hkv⟩ := findIx_lt x kv 0 j u hf
     simp only [Nat.zero_add, Nat.sub_zero] at hj hkv
     have hje : j < es.size := by omega
     have hs : seen.contains es[j].born = true := by
      have : leftOf es seen = #[] := Array.eq_empty_of_size_eq_zero h0
      unfold leftOf at this
      rw [Array.filter_eq_empty_iff] at this
      have := this es[j] (by simp)
      simpa using this
     have h6 := hd j hje hj hs
     rw [List.getElem?_eq_getElem hj] at hkv
     injection hkv with hkv
     rw [hkv] at h6
     exact h6
 have hem : en ∈ es.toList := by unfold leftOf at he; simp at he ⊢; exact he.1
 have hns : seen.contains en.born = false := by unfold leftOf at he; simp at he ⊢; exact he.2
 obtain ⟨i, hi, hie⟩ := List.mem_iff_getElem.1 hem
 have hi1 : i < es.size := by simpa using hi
 have hi2 : i < kv.length := by omega
 rw [Array.getElem_toList] at hie
 subst hie
 obtain ⟨ek, ev⟩ := hat i hi1 hi2
 have hup : Upd w (setBlock w1 r (.mapIter (some b) c (seen.push es[i].born) c)) (fun k => k = r) := by
  have hw : w1.heap = w.heap ∧ w1.os = w.os ∧ w1.tape = w.tape ∧ w1.output = w.output := by rcases hal with rfl | rfl <;> exact ⟨rfl, rfl, rfl, rfl⟩
  obtain ⟨a1, a2, a3, a4⟩ := hw
  refine ⟨a2, a3, a4, by simp [setBlock, a1], fun j hj hjr => ?_⟩
  simp only [setBlock, a1, Array.getElem?_setIfInBounds]
  rw [if_neg (fun e => hjr e.symm)]
 have hrb : r ≠ b := by
  rintro rfl
  rw [hr] at hg
  cases hg
 have hr' : (setBlock w1 r (.mapIter (some b) c (seen.push es[i].born) c)).heap[r]? = some (.mapIter (some b) c (seen.push es[i].born) c) := by
  have hw : w1.heap = w.heap := by rcases hal with rfl | rfl <;> rfl
  simp [setBlock, hw, hrl]
 have hg' := (hup.block b (Array.getElem?_eq_some_iff.1 hg).1 (Ne.symm hrb)).trans hg
 refine .inr ⟨kv[i].1, kv[i].2, _, _, ?_, by rw [hrun, ek, ev], ⟨es, c, kv, seen.push es[i].born, hg', h1, h2, h3, h4, h5, hr', rfl, ?_⟩, ?_, hup, ?_⟩
 · rw [h2]
   exact findIx_of_mem h5 (List.getElem_mem hi2)
 · intro j hj hj' hs
   by_cases hb : seen.contains es[j].born = true
   · exact .inl (hd j hj hj' hb)
   right
   have hs2 : es[j].born = es[i].born := by
    simp only [Array.contains_push, Bool.or_eq_true, beq_iff_eq] at hs
    rcases hs with hs | hs
    · exact absurd hs hb
    exact hs
   have : j = i := by
    have hh := (List.getElem_inj (xs := es.toList.map (·.born)) (i := j) (j := i) (h₀ := by simpa using hj) (h₁ := by simpa using hi1) h4).1 (by simpa using hs2)
    exact hh
   subst this
   rfl
 · rw [← hc]
   exact leftOf_lt hi1 hns
 have := run_entry_at (P := P) _ r b c seen es c es[i] hr' hg' (by simp) h4
 rw [this, ek, ev]
def itLeft (w : World) (b r : Nat) : Nat := match w.heap[b]?, w.heap[r]? with
 | some (.map es _), some (.mapIter _ _ seen _) => (leftOf es seen).size
 | _, _ => 0
theorem RangeF.left {b r cnt : Nat} {done : K → Prop} (h : RangeF w b r enc f done cnt) : itLeft w b r = cnt := by
 obtain ⟨es, c, kv, seen, hg, h1, h2, h3, h4, h5, hr, hc, hd⟩ := h
 unfold itLeft
 rw [hg, hr]
 exact hc
theorem RangeF.ne {b r cnt : Nat} {done : K → Prop} (h : RangeF w b r enc f done cnt) : r ≠ b := by
 obtain ⟨es, c, kv, seen, hg, h1, h2, h3, h4, h5, hr, hc, hd⟩ := h
 rintro rfl
 rw [hr] at hg
 cases hg
theorem RangeF.keep {b r cnt : Nat} {done : K → Prop} (h : RangeF w b r enc f done cnt) (hb : w'.heap[b]? = w.heap[b]?) (hr : w'.heap[r]? = w.heap[r]?) : RangeF w' b r enc f done cnt := by
 obtain ⟨es, c, kv, seen, hg, k1, k2, k3, k4, k5, k6, k7⟩ := h
 exact ⟨es, c, kv, seen, hb.trans hg, k1, k2, k3, k4, k5, hr.trans k6, k7⟩
end
section
variable {P : Program} {K : Type} [DecidableEq K] {t k e : TypeId} {w : World} {g : Nat} {enc : K → Value} {f : K → Option Value} {ops : Array Oper} {rest : List Oper} {o : Oper} {a : Act} {Q : Exit → Act → World → Prop}
theorem wpList_rangeF (hgd : o.guard = none) (m : Operand) (ho : o.op = .range t m) (ht : P.underlying t = some (.map k e)) (hm : a.eval m = .map (some g)) (h : MapF w g enc f)
 (hK : ∀ w' cnt, RangeF w' g w.heap.size enc f (fun _ => False) cnt → Below w.heap.size w w' → w'.heap.size = w.heap.size + 1 → wpList P ops Q rest (a.put o.dst (.pointer (some ⟨w.heap.size, 0, none⟩))) w') : wpList P ops Q (o :: rest) a w := by
 refine wpList_plain hgd fun K' hK' => ?_
 obtain ⟨w', cnt, hr, h1, h2, h3⟩ := h.range ht
 unfold Oper.wp execOp
 simp only [ho, Sem.run_bind, hm, hr, Result.andThen_ok, Sem.run_pure]
 exact hK' _ _ (hK w' cnt h1 h2 h3)
end
def CntM (g : Nat) (c : Int → Int) (w : World) : Prop := ∃ Kn : Int → Option Int, MapF w g intV (fun x => (Kn x).map intV) ∧ ∀ v, (Kn v).getD 0 = c v
theorem CntM.upd {g : Nat} {c : Int → Int} {w w' : World} {F : Nat → Prop} (h : CntM g c w) (hu : Upd w w' F) (hF : ¬ F g) : CntM g c w' := by
 obtain ⟨Kn, h1, h2⟩ := h
 exact ⟨Kn, h1.upd hu hF, h2⟩
theorem CntM.low {g : Nat} {c : Int → Int} {w w' : World} (h : CntM g c w) (hb : Below w.heap.size w w') : CntM g c w' := h.upd (Upd.low hb (fun _ => False)) id
theorem CntM.lt {g : Nat} {c : Int → Int} {w : World} (h : CntM g c w) : g < w.heap.size := by obtain ⟨Kn, h1, h2⟩ := h; exact h1.lt
theorem CntM.congr {g : Nat} {c c' : Int → Int} {w : World} (h : CntM g c w) (hc : ∀ v, c v = c' v) : CntM g c' w := by
 obtain ⟨Kn, h1, h2⟩ := h
 exact ⟨Kn, h1, fun v => (h2 v).trans (hc v)⟩
theorem CntM.look {g : Nat} {c : Int → Int} {w : World} (h : CntM g c w) (x : Int) : (Instr.lookup 138 (.map (some g)) (.int .i64 x) false).run Tryz.prog w = .ok (.int .i64 (c x)) w := by
 obtain ⟨Kn, h1, h2⟩ := h
 have := h1.lookup intK Tryz.underlying138 (zeroI w) x
 rw [← h2 x]
 cases hx : Kn x with
 | none => rw [hx] at this; exact this
 | some n => rw [hx] at this; exact this
def CntE (g : Nat) (c : Int → Int) (w : World) (e : Ending) (w' : World) : Prop := e = .returned (.tuple #[]) ∧ CntM g c w' ∧ Upd w w' (fun b => b = g)
theorem vLs_take {xs : List Tm} {k : Nat} (h : k < xs.length) : vLs (xs.take (k + 1)) = vLs (xs.take k) ++ vL xs[k] := by
 rw [List.take_succ_eq_append_getElem h, vLs_app, vLs, vLs, List.append_nil]
mutual
theorem vL_len : ∀ t : Tm, (vL t).length ≤ sizeT t
 | .mk f xs => by
   rw [vL, sizeT, List.length_append]
   have := vLs_len xs
   split <;> simp <;> omega
theorem vLs_len : ∀ xs : List Tm, (vLs xs).length ≤ sizeTs xs
 | [] => by rw [vLs]; simp
 | x :: xs => by
   rw [vLs, sizeTs, List.length_append]
   have := vL_len x
   have := vLs_len xs
   omega
end
def SmallC (c : Int → Int) (n : Nat) : Prop := ∀ v, -1000000000 ≤ c v - (n : Int) ∧ c v + (n : Int) ≤ 1000000000
theorem step_c {b : Int} (hb : b = 1 ∨ b = -1) {c : Int → Int} {f : Int} {l : List Int} (v : Int) : (if v = f then c f + b else c v) + b * (l.count v : Nat) = c v + b * ((([f] : List Int) ++ l).count v : Nat) := by
 rw [List.count_append, List.count_cons, List.count_nil]
 by_cases h : v = f
 · subst h
   rw [if_pos rfl, beq_self_eq_true]
   rcases hb with rfl | rfl <;> simp <;> omega
 rw [if_neg h, if_neg (by simpa using fun e => h e.symm)]
 rcases hb with rfl | rfl <;> simp
theorem counts1_any (b : Int) (hb : b = 1 ∨ b = -1) (mb g fb : Nat) (hmb : mb ≠ g) (hfb : fb ≠ g) (D : Nat) : ∀ (f : Int) (xs : List Tm) (v2 : Value) (B : Nat) (c : Int → Int) (w : World), sizeTs xs < D → SmallC c (sizeT (.mk f xs)) → Rd w B (.sl 2 (encTms xs)) v2 → 
 Box1 mb 138 (.map (some g)) w → CntM g c w → Box1 fb 139 (.func (.func 92) #[] #[.pointer (some ⟨mb, 0, none⟩), .pointer (some ⟨fb, 0, none⟩)]) w → B ≤ g →
 Calls Tryz.prog 92 (#[.agg #[.int .i64 f, v2], .int .i64 b] ++ #[.pointer (some ⟨mb, 0, none⟩), .pointer (some ⟨fb, 0, none⟩)]) w (CntE g (fun v => c v + b * ((vL (.mk f xs)).count v : Nat)) w) := by
 induction D with
 | zero => intro f xs v2 B c w h; omega
 | succ D ih =>
 intro f xs v2 B c w hD hsm hr hm hc hfn hB
 obtain ⟨A, cp, rfl, hcc, hxn, hmm⟩ := hr.tm_form
 have hml := ltOf hm
 have hgl := hc.lt
 have hfl := ltOf hfn
 have HR := Lh hr
 have HM := Lh hm
 have HC := Lh hc
 have HF := Lh hfn
 have Hih := Lh (fun f xs v2 B c w h1 h2 h3 h4 h5 h6 h7 => ih f xs v2 B c w h1 h2 h3 h4 h5 h6 h7)
 have Hmb := Lh hmb
 have Hfb := Lh hfb
 have Hb := Lh hb
 have Hsm := Lh hsm
 clear hr hm hc hfn ih hmb hfb hsm
 obtain ⟨hbl, hbu⟩ : -1 ≤ b ∧ b ≤ 1 := by omega
 have hz : sizeT (.mk f xs) = sizeTs xs + 1 := by rw [sizeT]
 have Hz := Lh hz
 have hcf := Hsm.out f
 rw [hz] at hcf
 obtain ⟨hcf1, hcf2⟩ := hcf
 clear hb hz
 by_cases hf : f < 0
 · go_enter Tryz.func92, Tryz.ntmps92
   go_upto_region 1 with fail
   obtain ⟨hx1, hB1, hz1⟩ := boxes1 w (.cells #[.int .i64 f, .slice A xs.length cp] 32)
   have hx1 : Box2 w.heap.size 32 (.int .i64 f) (.slice A xs.length cp) _ := hx1
   generalize w.alloc (.cells #[.int .i64 f, .slice A xs.length cp] 32) = w1 at hx1 hB1 hz1 ⊢
   have HX1 := Lh hx1
   have HB1 := Lh hB1
   have hl1 : w.heap.size < w1.heap.size := by omega
   obtain ⟨x10, x11, -⟩ := hx1.cells
   have m0 := (HM.out.low HB1.out).cell
   have hc1 := HC.out.low HB1.out
   have HC1 := Lh hc1
   clear hx1 hB1 hz1 hc1
   have hlk := HC1.out.look f
   obtain ⟨cf, hcfe⟩ : ∃ cf, c f = cf := ⟨_, rfl⟩
   rw [hcfe] at hlk hcf1 hcf2
   obtain ⟨Kn, hK, hKc⟩ := HC1.out
   have HK := Lh hK
   have HKc := Lh hKc
   have Hcf := Lh hcfe
   clear hK hKc hcfe
   go_upto_region 3 with (at_mapUpdate
                          refine wpList_mapStore rfl (.tmp 11) (.tmp 13) (.tmp 16) rfl intK Tryz.underlying138 rfl f rfl (.int .i64 (cf + b)) rfl (by exact HK.out) ?_
                          intro w2 hm2 hu2
                          have Hm2 := Lh hm2
                          have HU1 := Lh hu2
                          clear hm2 hu2)
   have hc2 : CntM g (fun v => if v = f then cf + b else c v) w2 := ⟨fun y => if y = f then some (cf + b) else Kn y, Hm2.out.congr (fun x => by dsimp only; split <;> rfl), fun v => by
    dsimp only
    split
    · rfl
    exact HKc.out v⟩
   have HC2 := Lh hc2
   have HU2 := Lh ((Upd.low HB1.out (fun b => b = g)).trans HU1.out (fun _ e => .inl e))
   have HX2 := Lh (HX1.out.upd HU1.out (by omega))
   have hb2 := HX2.out
   obtain ⟨x20, x21, -⟩ := hb2.cells
   clear hc2 hlk x10 x11 m0 hb2
   go_wp2_with fail
   clear x20 x21
   go_loopw [20] (fun i wr => ∃ k : Nat, k ≤ xs.length ∧ i = .int .i64 k ∧ CntM g (fun v => (fun v => if v = f then cf + b else c v) v + b * ((vLs (xs.take k)).count v : Nat)) wr ∧ Upd w2 wr (fun b => b = g)) (fun i _ => xs.length - (intOf i).toNat)
   case atStart => exact ⟨0, Nat.zero_le _, rfl, HC2.out.congr (fun v => by simp [vLs]), Upd.refl _ _⟩
   obtain ⟨k, hkl, rfl, hcm, hur⟩ := hrel
   have hzr := hur.size
   have hwr : Upd w wr (fun b => b = g) := HU2.out.trans hur (fun _ e => .inl e)
   have hzb := HU2.out.size
   have hbr := HX2.out.upd hur (by omega)
   obtain ⟨x20, x21, -⟩ := hbr.cells
   have Hwr2 := Lh hwr
   by_cases hlt : k < xs.length
   · obtain ⟨ab, off, f1, us, B1, d1, rfl, hxk, hab, k0, k1, hrd1⟩ := (hwr.keepRd HR.out (by omega) (by rintro k rfl; exact hB)).tm_at hlt
     have hs1 := sizeTs_mem hlt
     have hv1 := vLs_take hlt
     have hs2 := sizeTs_take hlt
     have hs3 := sizeTs_take_le xs (k + 1)
     rw [hxk] at hs1 hv1 hs2
     simp only [sizeT] at hs1 hs2
     have hfn := HF.out.upd hwr Hfb.out
     have hflr : fb < wr.heap.size := by omega
     have g0 := hfn.cell
     have hsc : SmallC (fun v => (fun v => if v = f then cf + b else c v) v + b * ((vLs (xs.take k)).count v : Nat)) (sizeTs us + 1) := fun v => by
      have h1 := Hsm.out v
      have h2 : (vLs (xs.take k)).count v ≤ (vLs (xs.take k)).length := List.count_le_length
      have h3 := vLs_len (xs.take k)
      dsimp only
      (have h4 := Hz.out; rw [h4] at h1; rcases Hb.out with rfl | rfl <;> simp only [Int.one_mul, Int.neg_mul] <;> split <;> omega)
     have hcl := fun (w' : World) (hb : Below wr.heap.size wr w') => Hih.out f1 us (.slice B1 us.length d1) B (fun v => (fun v => if v = f then cf + b else c v) v + b * ((vLs (xs.take k)).count v : Nat)) w' (by omega) (by rw [sizeT]; exact hsc) (hrd1.low hb (by omega)) ((HM.out.upd hwr Hmb.out).low hb) (hcm.low hb) (hfn.low hb) hB
     have Hcl := Lh hcl
     have Hv1 := Lh hv1
     have Hur := Lh hur
     clear hcl hxk hrd1 hfn hcm hur hv1 hwr hbr hs2 hs3 hsc
     go_wp2_with fail
     refine (Hcl.out _ (below_box wr _)).mono ?_
     rintro e w6 ⟨rfl, hc6, hu6⟩
     have Hc6 := Lh hc6
     have Hu6 := Lh ((Upd.low (below_box wr (.cells #[.int .i64 f1, .slice B1 us.length d1] 32)) (fun b => b = g)).trans hu6 (fun _ e => .inl e))
     clear hc6 hu6 Hcl
     go_wp2_with fail
     go_roundw
     case rel =>
      refine ⟨k + 1, by omega, by go_num, Hc6.out.congr (fun v => ?_), Hur.out.trans Hu6.out (fun _ e => .inl e)⟩
      rw [Hv1.out, List.count_append, Int.natCast_add, Int.mul_add, ← Int.add_assoc]
     case measure => simp [intOf]; omega
   have htk : xs.take k = xs := List.take_of_length_le (by omega)
   rw [htk] at hcm
   clear htk hur hwr hbr
   have HCM := Lh hcm
   clear hcm
   go_wp2_with fail
   go_end0
   exact ⟨rfl, HCM.out.congr (fun v => (by rw [vL, if_pos hf, ← Hcf.out]; exact step_c Hb.out v)), Hwr2.out⟩
 go_enter Tryz.func92, Tryz.ntmps92
 go_upto_region 1 with fail
 obtain ⟨hx1, hB1, hz1⟩ := boxes1 w (.cells #[.int .i64 f, .slice A xs.length cp] 32)
 have hx1 : Box2 w.heap.size 32 (.int .i64 f) (.slice A xs.length cp) _ := hx1
 generalize w.alloc (.cells #[.int .i64 f, .slice A xs.length cp] 32) = w1 at hx1 hB1 hz1 ⊢
 have HX1 := Lh hx1
 have HB1 := Lh hB1
 have hl1 : w.heap.size < w1.heap.size := by omega
 obtain ⟨x10, x11, -⟩ := hx1.cells
 have m0 := (HM.out.low HB1.out).cell
 have hc1 := HC.out.low HB1.out
 have HC1 := Lh hc1
 clear hx1 hB1 hz1 hc1
 have HU2 := Lh (Upd.low HB1.out (fun b => b = g))
 have HX2 := HX1
 go_wp2_with fail
 clear x10 x11 m0
 go_loopw [20] (fun i wr => ∃ k : Nat, k ≤ xs.length ∧ i = .int .i64 k ∧ CntM g (fun v => (c) v + b * ((vLs (xs.take k)).count v : Nat)) wr ∧ Upd w1 wr (fun b => b = g)) (fun i _ => xs.length - (intOf i).toNat)
 case atStart => exact ⟨0, Nat.zero_le _, rfl, HC1.out.congr (fun v => by simp [vLs]), Upd.refl _ _⟩
 obtain ⟨k, hkl, rfl, hcm, hur⟩ := hrel
 have hzr := hur.size
 have hwr : Upd w wr (fun b => b = g) := HU2.out.trans hur (fun _ e => .inl e)
 have hzb := HU2.out.size
 have hbr := HX2.out.upd hur (by omega)
 obtain ⟨x20, x21, -⟩ := hbr.cells
 have Hwr2 := Lh hwr
 by_cases hlt : k < xs.length
 · obtain ⟨ab, off, f1, us, B1, d1, rfl, hxk, hab, k0, k1, hrd1⟩ := (hwr.keepRd HR.out (by omega) (by rintro k rfl; exact hB)).tm_at hlt
   have hs1 := sizeTs_mem hlt
   have hv1 := vLs_take hlt
   have hs2 := sizeTs_take hlt
   have hs3 := sizeTs_take_le xs (k + 1)
   rw [hxk] at hs1 hv1 hs2
   simp only [sizeT] at hs1 hs2
   have hfn := HF.out.upd hwr Hfb.out
   have hflr : fb < wr.heap.size := by omega
   have g0 := hfn.cell
   have hsc : SmallC (fun v => (c) v + b * ((vLs (xs.take k)).count v : Nat)) (sizeTs us + 1) := fun v => by
    have h1 := Hsm.out v
    have h2 : (vLs (xs.take k)).count v ≤ (vLs (xs.take k)).length := List.count_le_length
    have h3 := vLs_len (xs.take k)
    dsimp only
    (have h4 := Hz.out; rw [h4] at h1; rcases Hb.out with rfl | rfl <;> simp only [Int.one_mul, Int.neg_mul] <;> omega)
   have hcl := fun (w' : World) (hb : Below wr.heap.size wr w') => Hih.out f1 us (.slice B1 us.length d1) B (fun v => (c) v + b * ((vLs (xs.take k)).count v : Nat)) w' (by omega) (by rw [sizeT]; exact hsc) (hrd1.low hb (by omega)) ((HM.out.upd hwr Hmb.out).low hb) (hcm.low hb) (hfn.low hb) hB
   have Hcl := Lh hcl
   have Hv1 := Lh hv1
   have Hur := Lh hur
   clear hcl hxk hrd1 hfn hcm hur hv1 hwr hbr hs2 hs3 hsc
   go_wp2_with fail
   refine (Hcl.out _ (below_box wr _)).mono ?_
   rintro e w6 ⟨rfl, hc6, hu6⟩
   have Hc6 := Lh hc6
   have Hu6 := Lh ((Upd.low (below_box wr (.cells #[.int .i64 f1, .slice B1 us.length d1] 32)) (fun b => b = g)).trans hu6 (fun _ e => .inl e))
   clear hc6 hu6 Hcl
   go_wp2_with fail
   go_roundw
   case rel =>
    refine ⟨k + 1, by omega, by go_num, Hc6.out.congr (fun v => ?_), Hur.out.trans Hu6.out (fun _ e => .inl e)⟩
    rw [Hv1.out, List.count_append, Int.natCast_add, Int.mul_add, ← Int.add_assoc]
   case measure => simp [intOf]; omega
 have htk : xs.take k = xs := List.take_of_length_le (by omega)
 rw [htk] at hcm
 clear htk hur hwr hbr
 have HCM := Lh hcm
 clear hcm
 go_wp2_with fail
 go_end0
 exact ⟨rfl, HCM.out.congr (fun v => (by rw [vL, if_neg (by omega), List.nil_append])), Hwr2.out⟩
def CnRes (s t : Tm) (w : World) (e : Ending) (w' : World) : Prop := ∃ p q : Bool, e = .returned (.tuple #[.bool p, .bool q]) ∧ (p = true ↔ leV s t) ∧ (q = true ↔ leV t s) ∧ Below w.heap.size w w'
def CnT (c : Int → Int) (done : Int → Prop) (p q : Bool) : Prop := (p = true → ∀ v, done v → c v ≤ 0) ∧ (q = true → ∀ v, done v → 0 ≤ c v) ∧ (p = false → ∃ v, 0 < c v) ∧ (q = false → ∃ v, c v < 0)
theorem CnT.next {c : Int → Int} {done : Int → Prop} {p q : Bool} (h : CnT c done p q) (x : Int) : CnT c (fun y => done y ∨ y = x) (p && decide (c x ≤ 0)) (q && decide (0 ≤ c x)) := by
 obtain ⟨h1, h2, h3, h4⟩ := h
 refine ⟨fun hp v hv => ?_, fun hq v hv => ?_, fun hp => ?_, fun hq => ?_⟩
 · rw [Bool.and_eq_true, decide_eq_true_iff] at hp
   rcases hv with hv | rfl
   · exact h1 hp.1 v hv
   exact hp.2
 · rw [Bool.and_eq_true, decide_eq_true_iff] at hq
   rcases hv with hv | rfl
   · exact h2 hq.1 v hv
   exact hq.2
 · cases p with
   | false => exact h3 rfl
   | true => rw [Bool.true_and, decide_eq_false_iff_not] at hp; exact ⟨x, by omega⟩
 cases q with
 | false => exact h4 rfl
 | true => rw [Bool.true_and, decide_eq_false_iff_not] at hq; exact ⟨x, by omega⟩
theorem CnT.end_ {s t : Tm} {c : Int → Int} {done : Int → Prop} {p q : Bool} (h : CnT c done p q) (hc : ∀ v, c v = ((vL s).count v : Int) - ((vL t).count v : Int)) (hd : ∀ v, done v ∨ c v = 0) : (p = true ↔ leV s t) ∧ (q = true ↔ leV t s) := by
 obtain ⟨h1, h2, h3, h4⟩ := h
 refine ⟨⟨fun hp v => ?_, fun hl => ?_⟩, ⟨fun hq v => ?_, fun hl => ?_⟩⟩
 · have := hc v
   rcases hd v with hv | hv
   · have := h1 hp v hv; omega
   omega
 · cases p with
   | true => rfl
   | false => obtain ⟨v, hv⟩ := h3 rfl; have := hc v; have := hl v; omega
 · have := hc v
   rcases hd v with hv | hv
   · have := h2 hq v hv; omega
   omega
 cases q with
 | true => rfl
 | false => obtain ⟨v, hv⟩ := h4 rfl; have := hc v; have := hl v; omega
theorem counts_any (f h : Int) (xs ys : List Tm) (v1 v2 : Value) (B : Nat) (w : World) (hz : sizeT (.mk f xs) + sizeT (.mk h ys) ≤ 1000000) (hr1 : Rd w B (.sl 2 (encTms xs)) v1) (hr2 : Rd w B (.sl 2 (encTms ys)) v2) (hB : B ≤ w.heap.size) :
 Calls Tryz.prog 78 #[.agg #[.int .i64 f, v1], .agg #[.int .i64 h, v2]] w (CnRes (.mk f xs) (.mk h ys) w) := by
 obtain ⟨A1, c1, rfl, -, hn1, -⟩ := hr1.tm_form
 obtain ⟨A2, c2, rfl, -, hn2, -⟩ := hr2.tm_form
 have HR1 := Lh hr1
 have HR2 := Lh hr2
 clear hr1 hr2
 have hmm := @run_makeMap Tryz.prog
 go_enter Tryz.func78, Tryz.ntmps78
 go_upto_region 1 with fail
 obtain ⟨hx1, hx2, hB2, hz2⟩ := boxes2 w (.cells #[.int .i64 f, .slice A1 xs.length c1] 32) (.cells #[.int .i64 h, .slice A2 ys.length c2] 32)
 have hx1 : Box2 w.heap.size 32 (.int .i64 f) (.slice A1 xs.length c1) _ := hx1
 have hx2 : Box2 (w.heap.size + 1) 32 (.int .i64 h) (.slice A2 ys.length c2) _ := hx2
 generalize (w.alloc (.cells #[.int .i64 f, .slice A1 xs.length c1] 32)).alloc (.cells #[.int .i64 h, .slice A2 ys.length c2] 32) = w2 at hx1 hx2 hB2 hz2 ⊢
 have HX1 := Lh hx1
 have HX2 := Lh hx2
 have HB2 := Lh hB2
 have hl2 : w.heap.size + 1 < w2.heap.size := by omega
 clear hx1 hx2 hB2 hz2
 go_upto_region 2 with fail
 obtain ⟨g, hg⟩ : ∃ g, w2.heap.size = g := ⟨_, rfl⟩
 have hb3 : Below w2.heap.size w2 ((w2.alloc (.map #[] 0)).alloc (.cells #[.map (some w2.heap.size)] 138)) := (below_box w2 _).trans ((below_box _ _).mono (by simp))
 have hm3 : CntM w2.heap.size (fun _ => 0) ((w2.alloc (.map #[] 0)).alloc (.cells #[.map (some w2.heap.size)] 138)) := ⟨fun _ => none, ((MapF.made w2 intV).alloc _).congr (fun _ => rfl), fun _ => rfl⟩
 have hx3 : Box1 (w2.heap.size + 1) 138 (.map (some w2.heap.size)) ((w2.alloc (.map #[] 0)).alloc (.cells #[.map (some w2.heap.size)] 138)) := by
  have h := heap_alloc_new (w2.alloc (.map #[] 0)) (.cells #[.map (some w2.heap.size)] 138)
  rw [alloc_size] at h
  exact h
 have hz3 : ((w2.alloc (.map #[] 0)).alloc (.cells #[.map (some w2.heap.size)] 138)).heap.size = w2.heap.size + 1 + 1 := by rw [alloc_size, alloc_size]
 rw [hg] at hb3 hm3 hx3 hz3 hl2 ⊢
 generalize (w2.alloc (.map #[] 0)).alloc (.cells #[.map (some g)] 138) = w3 at hb3 hm3 hx3 hz3 ⊢
 have hl3 : g + 1 < w3.heap.size := by omega
 have Hg := Lh hg
 have HX3 := Lh hx3
 have HM3 := Lh hm3
 have HB3 := Lh hb3
 clear hg hb3 hm3 hx3 hz3 hmm
 go_upto_region 4 with fail
 obtain ⟨hx4, hB4, hz4⟩ := boxes1 w3 (.cells #[.func (.func 92) #[] #[.pointer (some ⟨g + 1, 0, none⟩), .pointer (some ⟨w3.heap.size, 0, none⟩)]] 139)
 generalize w3.alloc (.cells #[.func (.func 92) #[] #[.pointer (some ⟨g + 1, 0, none⟩), .pointer (some ⟨w3.heap.size, 0, none⟩)]] 139) = w4 at hx4 hB4 hz4 ⊢
 have hx4 : Box1 w3.heap.size 139 _ w4 := hx4
 have hl4 : w3.heap.size < w4.heap.size := by omega
 have hl5 : w.heap.size + 1 < w4.heap.size := by omega
 have hlow : Below w.heap.size w w4 := HB2.out.trans ((HB3.out.mono (by omega)).trans (hB4.mono (by omega)))
 have h24 : Below w2.heap.size w2 w4 := (HB3.out.mono (by rw [Hg.out]; exact Nat.le_refl _)).trans (hB4.mono (by rw [Hg.out]; omega))
 have hbx1 := HX1.out.low h24
 have hbx2 := HX2.out.low h24
 have hm4 := HM3.out.low hB4
 have hx3 := HX3.out.low hB4
 have Hlow := Lh hlow
 have HX14 := Lh hbx1
 have HX24 := Lh hbx2
 have HM4 := Lh hm4
 have HX34 := Lh hx3
 have HX4 := Lh hx4
 have c4 := hx4.cell
 obtain ⟨c10, c11, -⟩ := hbx1.cells
 clear hx4 hB4 hz4 hlow h24 hbx1 hbx2 hm4 hx3 HX1 HX2 HM3 HX3
 have hcl := counts1_any 1 (.inl rfl) (g + 1) g w3.heap.size (by omega) (by omega) (sizeTs xs + 1) f xs (.slice A1 xs.length c1) B (fun _ => 0) w4 (Nat.lt_succ_self _) (fun v => by dsimp only; constructor <;> omega) (HR1.out.low Hlow.out hB) HX34.out HM4.out HX4.out (by omega)
 have Hcl := Lh hcl
 clear hcl
 go_wp2_with fail
 refine Hcl.out.mono ?_
 rintro e w5 ⟨rfl, hm5, hu5⟩
 have hz5 := hu5.size
 have hbx2 := HX24.out.upd hu5 (by omega)
 have hx4 := HX4.out.upd hu5 (by omega)
 have hlow5 : Below w.heap.size w w5 := Hlow.out.trans (hu5.toLow (by omega) (by rintro k rfl; omega))
 have c5 := hx4.cell
 obtain ⟨c20, c21, -⟩ := hbx2.cells
 have hcl := counts1_any (-1) (.inr rfl) (g + 1) g w3.heap.size (by omega) (by omega) (sizeTs ys + 1) h ys (.slice A2 ys.length c2) B _ w5 (Nat.lt_succ_self _) (fun v => by
  have h1 : (vL (.mk f xs)).count v ≤ (vL (.mk f xs)).length := List.count_le_length
  have h2 := vL_len (.mk f xs)
  constructor <;> omega) (HR2.out.low hlow5 hB) (HX34.out.upd hu5 (by omega)) hm5 hx4 (by omega)
 have hx35 := (HX34.out.upd hu5 (by omega)).cell
 have Hcl2 := Lh hcl
 have Hlow5 := Lh hlow5
 have HX35 := Lh (HX34.out.upd hu5 (by omega))
 clear hcl Hcl c4 c10 c11 hm5 hu5 hbx2 hx4 hlow5
 go_wp2_with fail
 refine Hcl2.out.mono ?_
 rintro e w6 ⟨rfl, hm6, hu6⟩
 have hz6 := hu6.size
 have hlow6 : Below w.heap.size w w6 := Hlow5.out.trans (hu6.toLow (by omega) (by rintro k rfl; omega))
 have c6 := (HX35.out.upd hu6 (by omega)).cell
 obtain ⟨c, hc⟩ : ∃ c : Int → Int, ∀ v, c v = ((vL (.mk f xs)).count v : Int) - ((vL (.mk h ys)).count v : Int) := ⟨_, fun _ => rfl⟩
 have hm6 : CntM g c w6 := hm6.congr (fun v => by rw [hc v]; omega)
 obtain ⟨Kn, hK, hKc⟩ := hm6
 have HK := Lh hK
 have HKc := Lh hKc
 have Hc := Lh hc
 have Hlow6 := Lh hlow6
 clear hK hKc hc hlow6 hm6 hu6 Hcl2 c5 c20 c21 hx35
 go_wp2_with (
  at_range
  refine wpList_rangeF rfl (.tmp 18) rfl Tryz.underlying138 rfl (by exact HK.out) ?_
  intro w7 cnt hrg hb7 hz7
  have Hrg := Lh hrg
  have Hb7 := Lh hb7
  clear hrg hb7 hz7)
 clear c6
 have Hlow7 := Lh (Hlow6.out.trans (Hb7.out.mono (by omega)))
 have hwr : w.heap.size ≤ w6.heap.size := by omega
 simp only [Act.put, List.setIfInBounds_toArray, List.set_cons_zero, List.set_cons_succ]
 go_loopw [4, 5] (fun p q wl => ∃ (P Q : Bool) (done : Int → Prop) (n : Nat), p = .bool P ∧ q = .bool Q ∧ RangeF wl g w6.heap.size intV (fun x => (Kn x).map intV) done n ∧ CnT c done P Q ∧ Below w.heap.size w wl) (fun _ _ wl => itLeft wl g w6.heap.size)
 case atStart => exact ⟨true, true, _, cnt, rfl, rfl, Hrg.out, ⟨fun _ _ h => h.elim, fun _ _ h => h.elim, fun h => (by cases h), fun h => (by cases h)⟩, Hlow7.out⟩
 obtain ⟨P, Q, done, n, rfl, rfl, hrgl, hct, hlowl⟩ := hrel
 have hleft := hrgl.left
 have hzl := hlowl.size
 rcases hrgl.next (P := Tryz.prog) 0 with ⟨hdone, hrun⟩ | ⟨v, u, w4', cnt3, hv, hrun, hrg4, hclt, hup4, hen⟩
 · have hend := hct.end_ Hc.out (fun v => by
    cases hv : Kn v with
    | none => right; rw [← HKc.out v, hv]; rfl
    | some m => left; exact hdone v (intV m) (by rw [hv]; rfl))
   have Hend := Lh hend
   have Hlowl := Lh hlowl
   clear hend hct hdone hleft hrgl hlowl
   go_wp2_with fail
   refine bodyPost_ret (results_tmp2 rfl _ _ _) rfl ?_
   exact ⟨P, Q, rfl, Hend.out.1, Hend.out.2, Hlowl.out⟩
 obtain ⟨m, hVn, rfl⟩ := Option.map_eq_some_iff.1 hv
 simp only [intV] at hrun hen
 have hcv : c v = m := by rw [← HKc.out v, hVn]; rfl
 have hnx := hct.next v
 rw [hcv] at hnx
 have Hnx := Lh hnx
 have Hl4 := Lh hrg4.left
 have Hleft := Lh hleft
 have Hrg4 := Lh hrg4
 have Hlow4 := Lh (hlowl.trans (hup4.toLow (by omega) (by rintro k rfl; exact hwr)))
 clear hnx hcv hVn hv hct hrg4 hleft hup4 hrgl hlowl
 cases P <;> cases Q
 all_goals
  go_wp2_with fail
  all_goals
   go_roundw
   case rel => exact ⟨_, _, _, cnt3, rfl, rfl, Hrg4.out, by simpa using Hnx.out, Hlow4.out⟩
   case measure => rw [Hl4.out, Hleft.out]; exact hclt
def RlRes (r : Rl) (w : World) (e : Ending) (w' : World) : Prop := e = .returned (.int .i64 r.int) ∧ Below w.heap.size w w'
mutual
theorem wT_le {ar : Int → Option Nat} {o : Od} (hk : KOd ar o) : ∀ t : Tm, wfT ar t → wT o.kp t ≤ 1000 * sizeT t
 | .mk f xs, h => by
   rw [wT, sizeT]
   have h1 := wTs_le hk xs (by rw [wfT] at h; exact h.2)
   have h2 : (if f < 0 then 1 else o.kp.wf f) ≤ 1000 := by
    split
    · omega
    have hl := hk.knows.1 f _ (by omega) (h.ar (by omega))
    have hw := hk.knows.2 hk.lpo
    have hj : f.toNat < o.weights.length := by omega
    have := hk.lo f.toNat hj
    unfold Od.kp
    dsimp only
    rw [List.getElem?_eq_getElem hj, Option.getD_some]
    omega
   omega
theorem wTs_le {ar : Int → Option Nat} {o : Od} (hk : KOd ar o) : ∀ xs : List Tm, wfTs ar xs → wTs o.kp xs ≤ 1000 * sizeTs xs
 | [], _ => by rw [wTs, sizeTs]; omega
 | x :: xs, h => by
   rw [wfTs] at h
   have := wT_le hk x h.1
   have := wTs_le hk xs h.2
   rw [wTs, sizeTs]
   omega
end
theorem reasonV_any {ar : Int → Option Nat} {o : Od} (hk : KOd ar o) (f g : Int) (xs ys : List Tm) (v1 v2 : Value) (Ap Aw : Option Addr) (cp cw : Nat) (B : Nat) (w : World) (hw1 : wfT ar (.mk f xs)) (hw2 : wfT ar (.mk g ys)) (hz : sizeT (.mk f xs) + sizeT (.mk g ys) ≤ 100000) (ho : OdV w B o Ap Aw cp cw) (hr1 : Rd w B (.sl 2 (encTms xs)) v1) (hr2 : Rd w B (.sl 2 (encTms ys)) v2) (hB : B ≤ w.heap.size) (hg : g < 0) :
 Calls Tryz.prog 79 #[.agg #[.bool o.lpo, .slice Ap o.prec.length cp, .slice Aw o.weights.length cw, .int .i64 o.var], .agg #[.int .i64 f, v1], .agg #[.int .i64 g, v2]] w (RlRes (krsn o.kp f xs g ys (klex o.kp xs ys)) w) := by
 obtain ⟨A1, c1, rfl, -, hn1, -⟩ := hr1.tm_form
 obtain ⟨A2, c2, rfl, -, hn2, -⟩ := hr2.tm_form
 obtain ⟨a, ha⟩ : ∃ a, wT o.kp (.mk f xs) = a := ⟨_, rfl⟩
 obtain ⟨b, hb⟩ : ∃ b, wT o.kp (.mk g ys) = b := ⟨_, rfl⟩
 have hzw1 := wT_le hk _ hw1
 have hzw2 := wT_le hk _ hw2
 have hca := fun (w' : World) (hb : Below w.heap.size w w') => weigh_any hk f xs (.slice A1 xs.length c1) Ap Aw cp cw B w' hw1 (by omega) (ho.low hb hB) (hr1.low hb hB) (by have := hb.size; omega)
 have hcb := fun (w' : World) (hb : Below w.heap.size w w') => weigh_any hk g ys (.slice A2 ys.length c2) Ap Aw cp cw B w' hw2 (by omega) (ho.low hb hB) (hr2.low hb hB) (by have := hb.size; omega)
 rw [ha] at hca hzw1
 rw [hb] at hcb hzw2
 have Hca := Lh hca
 have Hcb := Lh hcb
 have Ha := Lh ha
 have Hb := Lh hb
 have HR1 := Lh hr1
 have HR2 := Lh hr2
 have HO := Lh ho
 have Hk := Lh hk
 have Hw1 := Lh hw1
 have Hw2 := Lh hw2
 clear hca hcb ha hb hr1 hr2 ho hk hw1 hw2 hzw1 hzw2
 obtain ⟨res, hres⟩ : ∃ res, krsn o.kp f xs g ys (klex o.kp xs ys) = res := ⟨_, rfl⟩
 rw [hres]
 unfold krsn at hres
 rw [Ha.out, Hb.out] at hres
 have Hres := Lh hres
 clear hres
 go_enter Tryz.func79, Tryz.ntmps79
 go_upto_region 1 with fail
 obtain ⟨hx1, hx2, hx3, hB3, hz3⟩ := boxes3 w (.cells #[.bool o.lpo, .slice Ap o.prec.length cp, .slice Aw o.weights.length cw, .int .i64 o.var] 38) (.cells #[.int .i64 f, .slice A1 xs.length c1] 32) (.cells #[.int .i64 g, .slice A2 ys.length c2] 32)
 generalize ((w.alloc (.cells #[.bool o.lpo, .slice Ap o.prec.length cp, .slice Aw o.weights.length cw, .int .i64 o.var] 38)).alloc (.cells #[.int .i64 f, .slice A1 xs.length c1] 32)).alloc (.cells #[.int .i64 g, .slice A2 ys.length c2] 32) = w3 at hx1 hx2 hx3 hB3 hz3 ⊢
 have hx1 : BoxN w.heap.size 38 #[.bool o.lpo, .slice Ap o.prec.length cp, .slice Aw o.weights.length cw, .int .i64 o.var] w3 := hx1
 have hx2 : Box2 (w.heap.size + 1) 32 (.int .i64 f) (.slice A1 xs.length c1) w3 := hx2
 have hx3 : Box2 (w.heap.size + 1 + 1) 32 (.int .i64 g) (.slice A2 ys.length c2) w3 := hx3
 have HB3 := Lh hB3
 have HX1 := Lh hx1
 have HX2 := Lh hx2
 have HX3 := Lh hx3
 have hz3l : w.heap.size + 1 + 1 < w3.heap.size := by omega
 clear hx1 hx2 hx3 hB3 hz3
 refine bu 8 (fun w' => Below w3.heap.size w3 w') (fun wd hwd hbd => ?_) ?_
 · exact hwd ▸ hbd
 refine ru 0 (.agg #[.bool o.lpo, .slice Ap o.prec.length cp, .slice Aw o.weights.length cw, .int .i64 o.var]) (fun w' hw => ?_) ?_
 · have ob := HX1.out.low hw
   have o0 : w'.cell? ⟨w.heap.size, 0, none⟩ = some (.bool o.lpo) := ob.cell 0
   have o1 : w'.cell? ⟨w.heap.size, 1, none⟩ = some (.slice Ap o.prec.length cp) := ob.cell 1
   have o2 : w'.cell? ⟨w.heap.size, 2, none⟩ = some (.slice Aw o.weights.length cw) := ob.cell 2
   have o3 : w'.cell? ⟨w.heap.size, 3, none⟩ = some (.int .i64 o.var) := ob.cell 3
   simp [execOp, go_sem, o0, o1, o2, o3]
 refine ru 1 (.agg #[.int .i64 f, .slice A1 xs.length c1]) (fun w' hw => ?_) ?_
 · have s1 := (HX2.out.low hw).cells
   simp [execOp, go_sem, s1.1, s1.2.1]
 refine cu 2 (.int .i64 (a : Nat)) (fun w' hw => (Hca.out w' (HB3.out.trans (hw.mono (by omega)))).mono ?_) ?_
 · rintro e w2 ⟨rfl, hb⟩
   exact ⟨rfl, hw.trans (hb.mono hw.size)⟩
 refine ru 3 (.agg #[.bool o.lpo, .slice Ap o.prec.length cp, .slice Aw o.weights.length cw, .int .i64 o.var]) (fun w' hw => ?_) ?_
 · have ob := HX1.out.low hw
   have o0 : w'.cell? ⟨w.heap.size, 0, none⟩ = some (.bool o.lpo) := ob.cell 0
   have o1 : w'.cell? ⟨w.heap.size, 1, none⟩ = some (.slice Ap o.prec.length cp) := ob.cell 1
   have o2 : w'.cell? ⟨w.heap.size, 2, none⟩ = some (.slice Aw o.weights.length cw) := ob.cell 2
   have o3 : w'.cell? ⟨w.heap.size, 3, none⟩ = some (.int .i64 o.var) := ob.cell 3
   simp [execOp, go_sem, o0, o1, o2, o3]
 refine ru 4 (.agg #[.int .i64 g, .slice A2 ys.length c2]) (fun w' hw => ?_) ?_
 · have s2 := (HX3.out.low hw).cells
   simp [execOp, go_sem, s2.1, s2.2.1]
 refine cu 5 (.int .i64 (b : Nat)) (fun w' hw => (Hcb.out w' (HB3.out.trans (hw.mono (by omega)))).mono ?_) ?_
 · rintro e w2 ⟨rfl, hb⟩
   exact ⟨rfl, hw.trans (hb.mono hw.size)⟩
 refine pu 6 (.int .i64 (a : Nat)) ?_
 refine pu 7 (.int .i64 (b : Nat)) ?_
 refine du (fun wz hS => ?_)
 obtain ⟨w4, hw4⟩ : ∃ w4, wz = w4 := ⟨_, rfl⟩
 rw [hw4] at hS ⊢
 have hz4 := hS.size
 have HB4 := Lh (HB3.out.trans (hS.mono (by omega)))
 have hob := HX1.out.low hS
 have hsb := HX2.out.low hS
 have htb := HX3.out.low hS
 have HX14 := Lh hob
 have HX24 := Lh hsb
 have HX34 := Lh htb
 have o0 : w4.cell? ⟨w.heap.size, 0, none⟩ = some (.bool o.lpo) := hob.cell 0
 have o1 : w4.cell? ⟨w.heap.size, 1, none⟩ = some (.slice Ap o.prec.length cp) := hob.cell 1
 have o2 : w4.cell? ⟨w.heap.size, 2, none⟩ = some (.slice Aw o.weights.length cw) := hob.cell 2
 have o3 : w4.cell? ⟨w.heap.size, 3, none⟩ = some (.int .i64 o.var) := hob.cell 3
 obtain ⟨s1, s2, -⟩ := hsb.cells
 obtain ⟨t1, t2, -⟩ := htb.cells
 clear hw4 hob hsb htb hS HX1 HX2 HX3
 by_cases h1 : b < a
 · have hr : res = .gt := by rw [← Hres.out, if_pos h1]
   have h1' : ¬ a < b := by omega
   have Hr := Lh hr
   clear hr
   go_wp2_with fail
   go_ret
   exact ⟨by rw [Hr.out]; rfl, HB4.out⟩
 by_cases h2 : a < b
 · have hr : res = .lt := by rw [← Hres.out, if_neg h1, if_pos h2]
   have Hr := Lh hr
   clear hr
   go_wp2_with fail
   go_ret
   exact ⟨by rw [Hr.out]; rfl, HB4.out⟩
 have hres := Hres.out
 rw [if_neg h1, if_neg h2] at hres
 by_cases hf : f < 0
 · rw [if_pos ⟨hf, hg⟩] at hres
   have Hr := Lh hres
   clear hres
   go_wp2_with fail
   go_ret
   exact ⟨by rw [← Hr.out]; rfl, HB4.out⟩
 rw [if_neg (fun e => hf e.1), if_pos hg] at hres
 have har := around_any f g xs (.slice A1 xs.length c1) B w4 (HR1.out.low HB4.out hB) (by omega)
 have Har := Lh har
 clear har
 cases hq : arnd f g (.mk f xs) with
 | true =>
   rw [hq] at Har
   rw [if_pos hq] at hres
   have Hr := Lh hres
   clear hres hq
   go_wp2_with fail
   refine Har.out.mono ?_
   rintro e w5 ⟨rfl, hb5⟩
   have Hb5 := Lh hb5
   clear hb5
   go_wp2_with fail
   go_ret
   exact ⟨by rw [← Hr.out]; rfl, HB4.out.trans (Hb5.out.mono (by omega))⟩
 | false =>
   rw [hq] at Har
   rw [if_neg (by rw [hq]; decide)] at hres
   have Hr := Lh hres
   clear hres hq
   go_wp2_with fail
   refine Har.out.mono ?_
   rintro e w5 ⟨rfl, hb5⟩
   have Hb5 := Lh hb5
   clear hb5
   go_wp2_with fail
   go_ret
   exact ⟨by rw [← Hr.out]; rfl, HB4.out.trans (Hb5.out.mono (by omega))⟩
def prV (p : Int × Int) : Value := .agg #[.int .i64 p.1, .int .i64 p.2]
theorem run_eq_pr (a b c d : Int) (w : World) : (binOp .eql 136 (.agg #[.int .i64 a, .int .i64 b]) (.agg #[.int .i64 c, .int .i64 d])).run Tryz.prog w = .ok (.bool (decide ((a, b) = (c, d)))) w := by
 simp only [go_sem]
 simp [go_sem]
 by_cases h1 : a = c <;> by_cases h2 : b = d <;> simp [h1, h2]
theorem equal_pr (w : World) (x y : Int × Int) : (Op.equal 136 (prV x) (prV y)).run Tryz.prog w = .ok (decide (x = y)) w := by
 obtain ⟨x1, x2⟩ := x
 obtain ⟨y1, y2⟩ := y
 have h := run_eq_pr x1 x2 y1 y2 w
 simp only [binOp, Sem.run_bind] at h
 unfold prV
 cases hr : (Op.equal 136 (.agg #[.int .i64 x1, .int .i64 x2]) (.agg #[.int .i64 y1, .int .i64 y2])).run Tryz.prog w with
 | ok b w1 => rw [hr] at h; simpa using h
 | halt b w1 => rw [hr] at h; simp [Result.andThen] at h
theorem check_pr (em : Bool) (w : World) (x : Int × Int) : (Instr.checkKey em 10000 136 (prV x)).run Tryz.prog w = .ok () w := by
 obtain ⟨n, hn⟩ : ∃ n, 10000 = n + 2 := ⟨9998, rfl⟩
 rw [hn]
 unfold prV
 rw [Instr.checkKey]
 have hi := MapKept.run_checkKey (P := Tryz.prog) (w := w) (kt := 3) (k := .int .i64 x.1) Tryz.underlying3 (by simp [MapKept.IsKey]) em n
 have hj := MapKept.run_checkKey (P := Tryz.prog) (w := w) (kt := 3) (k := .int .i64 x.2) Tryz.underlying3 (by simp [MapKept.IsKey]) em n
 simp [go_sem, run_underlying Tryz.underlying136, hi, hj]
theorem prK : KeyTy Tryz.prog 136 prV := by
 refine keyTy_asking (d := .struct (Tryz.prog.fieldsOf 136)) (by kernel_rfl) ?_ equal_pr check_pr ?_
 · intro x y; rfl
 intro x
 obtain ⟨n, hn⟩ : ∃ n, 10000 = n + 2 := ⟨9998, rfl⟩
 rw [hn]
 unfold prV
 rw [Instr.sameBits]
 simp [Instr.sameBits]
theorem zeroB (w : World) : (zeroValue 4).run Tryz.prog w = .ok (.bool false) w := by kernel_rfl
def encPt (p : Tm × List Int) : List Tr := [.leaf (.int .i64 p.1.fn), .sl 2 (encTms p.1.args), encIs p.2]
def encPL (L : PL) : Tr := .sl 3 (L.map encPt)
mutual
def PartAt (L : PL) : Nat → Tm → Prop
 | i, .mk f xs => ∃ is, L[i]? = some (.mk f xs, is) ∧ PartsAt L is xs
def PartsAt (L : PL) : List Int → List Tm → Prop
 | [], [] => True
 | i :: is, x :: xs => (∃ j : Nat, i = (j : Int) ∧ PartAt L j x) ∧ PartsAt L is xs
 | _, _ => False
end
theorem PartsAt.len {L : PL} : ∀ {is : List Int} {xs : List Tm}, PartsAt L is xs → is.length = xs.length
 | [], [], _ => rfl
 | i :: is, x :: xs, h => by rw [PartsAt] at h; rw [List.length_cons, List.length_cons, h.2.len]
 | [], x :: xs, h => by rw [PartsAt] at h; exact h.elim; all_goals (intros; simp_all)
 | i :: is, [], h => by rw [PartsAt] at h; exact h.elim; all_goals (intros; simp_all)
theorem PartsAt.at_ {L : PL} : ∀ {is : List Int} {xs : List Tm}, PartsAt L is xs → ∀ k (h1 : k < is.length) (h2 : k < xs.length), ∃ j : Nat, is[k] = (j : Int) ∧ PartAt L j xs[k]
 | i :: is, x :: xs, h, 0, _, _ => by rw [PartsAt] at h; exact h.1
 | i :: is, x :: xs, h, k + 1, h1, h2 => by rw [PartsAt] at h; exact h.2.at_ k (by simpa using h1) (by simpa using h2)
theorem getElem?_mid (a : PL) (x : Tm × List Int) (b : PL) : (a ++ x :: b)[a.length]? = some x := by simp
mutual
theorem layP_at : ∀ (t : Tm) (a b : PL), PartAt (a ++ layP t a.length ++ b) a.length t
 | .mk f xs, a, b => by
   rw [PartAt, layP]
   refine ⟨posOf xs (a.length + 1), by rw [List.append_assoc, List.cons_append]; exact getElem?_mid _ _ _, ?_⟩
   have h := layPs_at xs (a ++ [(.mk f xs, posOf xs (a.length + 1))]) b
   rw [List.length_append, List.length_singleton] at h
   have e : a ++ [(Tm.mk f xs, posOf xs (a.length + 1))] ++ layPs xs (a.length + 1) ++ b = a ++ (Tm.mk f xs, posOf xs (a.length + 1)) :: layPs xs (a.length + 1) ++ b := by simp
   rw [e] at h
   exact h
theorem layPs_at : ∀ (xs : List Tm) (a b : PL), PartsAt (a ++ layPs xs a.length ++ b) (posOf xs a.length) xs
 | [], a, b => by rw [posOf, PartsAt]; trivial
 | x :: xs, a, b => by
   rw [posOf, PartsAt, layPs]
   refine ⟨⟨a.length, rfl, ?_⟩, ?_⟩
   · have h := layP_at x a (layPs xs (a.length + sizeT x) ++ b)
     rwa [show a ++ (layP x a.length ++ layPs xs (a.length + sizeT x)) ++ b = a ++ layP x a.length ++ (layPs xs (a.length + sizeT x) ++ b) by simp [List.append_assoc]]
   have h := layPs_at xs (a ++ layP x a.length) b
   rw [List.length_append, layP_len] at h
   rwa [show a ++ (layP x a.length ++ layPs xs (a.length + sizeT x)) ++ b = a ++ layP x a.length ++ layPs xs (a.length + sizeT x) ++ b by simp [List.append_assoc]]
end
theorem layP_root (t : Tm) : PartAt (layP t 0) 0 t := by
 have := layP_at t [] []
 simpa using this
theorem RowsP.rd {w : World} {base : Nat} {v : Value} {rows : List (List Value)} {P : Nat → Prop} {L : PL} (ho : Own w base 134 3 v rows) (hr : RowsP w P rows L) (hn : rows.length ≤ 100000000) : RdP w (fun b => P b ∨ v.ownBlock = some b) (encPL L) v := by
 rcases (ho.rd (by omega)).sl_inv with ⟨h0, A, rfl⟩ | ⟨b, off, c, us, rfl, h1, h2, h3, h4, h5, h6⟩
 · have h0 : rows = [] := by simpa using h0
   have hL : L = [] := List.eq_nil_of_length_eq_zero (by rw [← hr.1, h0]; rfl)
   subst hL
   cases A with
   | none => exact .none_ _
   | some a => exact .empty _ a
 rw [List.length_map] at h1 h2 h5 ⊢
 have hlen : (L.map encPt).length = rows.length := by rw [List.length_map, hr.1]
 unfold encPL
 rw [← hlen]
 refine .row 3 b off c _ us (fun r hr => ?_) (by omega) (by omega) h3 (.inr rfl) h4 (fun k j hk hj => h5 k j (by omega) hj) (fun k hk j hj => ?_)
 · obtain ⟨r0, -, rfl⟩ := List.mem_map.1 hr
   rfl
 have hkr : k < rows.length := by omega
 have hkL : k < L.length := by rw [← hr.1]; exact hkr
 obtain ⟨A1, c1, A2, c2, he, q1, q2⟩ := hr.2 k hkr hkL
 have hl3 := ho.2 _ (List.getElem_mem hkr)
 simp only [List.getElem_map] at hj ⊢
 have hj3 : j < 3 := hj
 have h7 := h6 k (by rw [List.length_map]; exact hkr) j (by simp only [List.getElem_map, List.length_map]; omega)
 simp only [List.getElem_map] at h7
 have hu := h7.leaf_inv
 rw [hu]
 simp only [he]
 rcases (by omega : j = 0 ∨ j = 1 ∨ j = 2) with rfl | rfl | rfl
 · exact .leaf _
 · exact q1.more fun b hb _ => .inl hb
 exact q2.more fun b hb _ => .inl hb
theorem RdP.at_ {w : World} {P : Nat → Prop} {k n c size : Nat} {A : Option Addr} {rows : List (List Tr)} (h : RdP w P (.sl size rows) (.slice A n c)) (hk : k < rows.length) :
 ∃ (ab off : Nat) (us : Nat → Value), A = some ⟨ab, off, none⟩ ∧ P ab ∧ ab < w.heap.size ∧ (∀ j, j < size → w.cell? ⟨ab, off + k * size + j, none⟩ = some (us j)) ∧ (∀ j (h' : j < rows[k].length), RdP w P rows[k][j] (us j)) := by
 cases h with
 | none_ => simp at hk
 | empty => simp at hk
 | row _ b off _ _ us hl hc hn hm hb hlt hcell hr => exact ⟨b, off, us k, rfl, hb, hlt, fun j hj => hcell k j hk hj, fun j hj => hr k hk j hj⟩
theorem pl_at {w : World} {P : Nat → Prop} {i n c : Nat} {A : Option Addr} {L : PL} {f : Int} {xs : List Tm} {is : List Int} (h : RdP w P (encPL L) (.slice A n c)) (hi : L[i]? = some (.mk f xs, is)) :
 ∃ ab off A1 c1 A2 c2, A = some ⟨ab, off, none⟩ ∧ i < L.length ∧ P ab ∧ ab < w.heap.size ∧ w.cell? ⟨ab, off + i * 3, none⟩ = some (.int .i64 f) ∧ w.cell? ⟨ab, off + i * 3 + 1, none⟩ = some (.slice A1 xs.length c1) ∧ w.cell? ⟨ab, off + i * 3 + 2, none⟩ = some (.slice A2 is.length c2) ∧
   RdP w P (.sl 2 (encTms xs)) (.slice A1 xs.length c1) ∧ RdP w P (encIs is) (.slice A2 is.length c2) ∧ is.length ≤ 140737488351232 := by
 obtain ⟨hl, he⟩ := List.getElem?_eq_some_iff.1 hi
 unfold encPL at h
 obtain ⟨ab, off, us, hA, hb, hlt, hc, hr⟩ := h.at_ (k := i) (by simpa using hl)
 have hrow : (L.map encPt)[i]'(by simpa using hl) = [.leaf (.int .i64 f), .sl 2 (encTms xs), encIs is] := by simp [he, encPt, Tm.fn, Tm.args]
 have h0 := hr 0 (by rw [hrow]; simp)
 have h1 := hr 1 (by rw [hrow]; simp)
 have h2 := hr 2 (by rw [hrow]; simp)
 simp only [hrow, List.getElem_cons_zero, List.getElem_cons_succ] at h0 h1 h2
 have e0 := h0.leaf_inv
 obtain ⟨A1, c1, e1, -⟩ := h1.rd'.tm_form
 obtain ⟨A2, c2, e2, -, hn2, -⟩ := Rd.row_form (show Rd w w.heap.size (.sl 1 (is.map fun n => [.leaf (.int .i64 n)])) (us 2) from h2.rd')
 refine ⟨ab, off, A1, c1, A2, c2, hA, hl, hb, hlt, ?_, ?_, ?_, ?_, ?_, hn2⟩
 · rw [← e0, ← hc 0 (by omega), Nat.add_zero]
 · rw [← e1, ← hc 1 (by omega)]
 · rw [← e2, ← hc 2 (by omega)]
 · rw [← e1]; exact h1
 rw [← e2]; exact h2
theorem tmP_at {w : World} {P : Nat → Prop} {k n c : Nat} {A : Option Addr} {xs : List Tm} (h : RdP w P (.sl 2 (encTms xs)) (.slice A n c)) (hk : k < xs.length) :
 ∃ ab off f ys A2 c2, A = some ⟨ab, off, none⟩ ∧ xs[k] = .mk f ys ∧ P ab ∧ ab < w.heap.size ∧ w.cell? ⟨ab, off + k * 2, none⟩ = some (.int .i64 f) ∧ w.cell? ⟨ab, off + k * 2 + 1, none⟩ = some (.slice A2 ys.length c2) ∧ RdP w P (.sl 2 (encTms ys)) (.slice A2 ys.length c2) := by
 have hl := encTms_len xs
 obtain ⟨ab, off, us, hA, hb, hlt, hc, hr⟩ := h.at_ (k := k) (by omega)
 have hrow : (encTms xs)[k]'(by omega) = encTm xs[k] := by simp [encTms_map]
 rcases hxk : xs[k] with ⟨f, ys⟩
 rw [hxk] at hrow
 have h0 := hr 0 (by rw [hrow]; simp [encTm])
 have h1 := hr 1 (by rw [hrow]; simp [encTm])
 simp only [hrow, encTm, List.getElem_cons_zero, List.getElem_cons_succ] at h0 h1
 have e0 := h0.leaf_inv
 obtain ⟨A2, c2, e1, _⟩ := h1.rd'.tm_form
 exact ⟨ab, off, f, ys, A2, c2, hA, rfl, hb, hlt, by rw [← e0]; exact hc 0 (by omega), by rw [← e1]; exact hc 1 (by omega), by rw [← e1]; exact h1⟩
theorem keepC {w w' : World} {gm b o : Nat} {v : Option Value} (hu : Upd w w' (fun j => j = gm)) (hne : b ≠ gm) (hl : b < w.heap.size) (h : w.cell? ⟨b, o, none⟩ = v) : w'.cell? ⟨b, o, none⟩ = v := (World.cell?_of_block (a := ⟨b, o, none⟩) (hu.block b hl hne)).trans h
theorem int_at {w : World} {P : Nat → Prop} {k n c : Nat} {A : Option Addr} {is : List Int} (h : RdP w P (encIs is) (.slice A n c)) (hk : k < is.length) :
 ∃ ab off, A = some ⟨ab, off, none⟩ ∧ P ab ∧ ab < w.heap.size ∧ w.cell? ⟨ab, off + k, none⟩ = some (.int .i64 is[k]) := by
 unfold encIs at h
 obtain ⟨ab, off, us, hA, hb, hlt, hc, hr⟩ := h.at_ (k := k) (by simpa using hk)
 have h0 := hr 0 (by simp)
 simp only [List.getElem_map, List.getElem_cons_zero] at h0
 have := hc 0 (by omega)
 rw [Nat.mul_one, Nat.add_zero, h0.leaf_inv] at this
 exact ⟨ab, off, hA, hb, hlt, this⟩
structure Wk (o : Od) (Ls Lt : PL) (wb gm : Nat) (Ap Aw As At : Option Addr) (cp cw cs ct : Nat) (w : World) : Prop where
 box : BoxN wb 121 #[.bool o.lpo, .slice Ap o.prec.length cp, .slice Aw o.weights.length cw, .int .i64 o.var, .slice As Ls.length cs, .slice At Lt.length ct, .map (some gm)] w
 s : RdP w (fun j => j ≠ gm) (encPL Ls) (.slice As Ls.length cs)
 t : RdP w (fun j => j ≠ gm) (encPL Lt) (.slice At Lt.length ct)
 p : RdP w (fun j => j ≠ gm) (encIs o.prec) (.slice Ap o.prec.length cp)
 ne : wb ≠ gm
def Memo (o : Od) (Ls Lt : PL) (gm : Nat) (w : World) : Prop :=
 ∃ Kn : Int × Int → Option Bool, MapF w gm prV (fun p => (Kn p).map Value.bool) ∧ ∀ (i k : Nat) (b : Bool), Kn ((i : Int), (k : Int)) = some b → ∀ s t, PartAt Ls i s → PartAt Lt k t → b = lgt o.kp.pr s t
section
variable {o : Od} {Ls Lt : PL} {wb gm : Nat} {Ap Aw As At : Option Addr} {cp cw cs ct : Nat} {w w' : World}
theorem Wk.upd (h : Wk o Ls Lt wb gm Ap Aw As At cp cw cs ct w) (hu : Upd w w' (fun j => j = gm)) : Wk o Ls Lt wb gm Ap Aw As At cp cw cs ct w' :=
 ⟨h.box.upd hu h.ne, h.s.upd hu (fun b hb _ => hb), h.t.upd hu (fun b hb _ => hb), h.p.upd hu (fun b hb _ => hb), h.ne⟩
theorem Wk.cells (h : Wk o Ls Lt wb gm Ap Aw As At cp cw cs ct w) : w.cell? ⟨wb, 1, none⟩ = some (.slice Ap o.prec.length cp) ∧ w.cell? ⟨wb, 4, none⟩ = some (.slice As Ls.length cs) ∧ w.cell? ⟨wb, 5, none⟩ = some (.slice At Lt.length ct) ∧ w.cell? ⟨wb, 6, none⟩ = some (.map (some gm)) :=
 ⟨h.box.cell 1, h.box.cell 4, h.box.cell 5, h.box.cell 6⟩
theorem Memo.lt (h : Memo o Ls Lt gm w) : gm < w.heap.size := by obtain ⟨Kn, h1, -⟩ := h; exact h1.lt
theorem Memo.low (h : Memo o Ls Lt gm w) (hb : Below w.heap.size w w') : Memo o Ls Lt gm w' := by obtain ⟨Kn, h1, h2⟩ := h; exact ⟨Kn, h1.low hb, h2⟩
end
def AbvH (ar : Int → Option Nat) (o : Od) (Ls Lt : PL) (wb gm : Nat) (Ap Aw As At : Option Addr) (cp cw cs ct : Nat) (D : Nat) (R : Bool → World → Ending → World → Prop) : Prop :=
 ∀ (i k : Nat) (s t : Tm) (w : World), sizeT s + sizeT t < D → PartAt Ls i s → PartAt Lt k t → wfT ar s → wfT ar t → Wk o Ls Lt wb gm Ap Aw As At cp cw cs ct w → Memo o Ls Lt gm w →
   Calls Tryz.prog 77 #[.pointer (some ⟨wb, 0, none⟩), .int .i64 (i : Nat), .int .i64 (k : Nat)] w (R (lgt o.kp.pr s t) w)
def WkR (o : Od) (Ls Lt : PL) (gm : Nat) (b : Bool) (w : World) (e : Ending) (w' : World) : Prop := e = .returned (.bool b) ∧ Upd w w' (fun j => j = gm) ∧ Memo o Ls Lt gm w'
open Classical in
noncomputable def rVar (s t : Tm) : Bool := decide (t.fn < 0 ∧ t.fn ∈ vL s)
noncomputable def rIn (pr : Int → Int) (s t : Tm) : Bool := if t.fn < 0 then false else lwithin pr s.args t
noncomputable def rRank (pr : Int → Int) (s t : Tm) : Bool := decide (0 ≤ t.fn ∧ s.fn ≠ t.fn ∧ pr t.fn < pr s.fn) && lall pr s t.args
noncomputable def rLex (pr : Int → Int) (s t : Tm) : Bool := decide (s.fn = t.fn) && lall pr s t.args && llex pr s.args t.args
theorem lgt_or (pr : Int → Int) {f : Int} {xs : List Tm} (hf : 0 ≤ f) (t : Tm) : lgt pr (.mk f xs) t = (rVar (.mk f xs) t || rIn pr (.mk f xs) t || rRank pr (.mk f xs) t || rLex pr (.mk f xs) t) := by
 obtain ⟨g, ys⟩ := t
 rw [lgt, if_neg (by omega)]
 unfold rVar rIn rRank rLex
 simp only [Tm.fn, Tm.args]
 by_cases hg : g < 0
 · have h1 : ¬ 0 ≤ g := by omega
   have h2 : f ≠ g := by omega
   simp [hg, h1, h2]
 have h1 : 0 ≤ g := by omega
 by_cases h2 : f = g <;> by_cases h3 : pr g < pr f <;> simp [hg, h1, h2, h3]
structure Sy where
 name : ByteArray
 ar : Int
 pr : Bool
def encSy (s : Sy) : List Tr := [.leaf (.string s.name), .leaf (.int .i64 s.ar), .leaf (.bool s.pr)]
def encSig (l : List Sy) : Tr := .sl 3 (l.map encSy)
theorem Rd.sy_at {w : World} {B k n c : Nat} {A : Option Addr} {l : List Sy} (h : Rd w B (encSig l) (.slice A n c)) (hk : k < l.length) :
 ∃ ab off, A = some ⟨ab, off, none⟩ ∧ ab < B ∧ w.cell? ⟨ab, off + k * 3, none⟩ = some (.string l[k].name) ∧ w.cell? ⟨ab, off + k * 3 + 1, none⟩ = some (.int .i64 l[k].ar) ∧ w.cell? ⟨ab, off + k * 3 + 2, none⟩ = some (.bool l[k].pr) := by
 unfold encSig at h
 obtain ⟨ab, off, us, hA, hb, hc, hr⟩ := h.at_ (k := k) (by simpa using hk)
 have hrow : (l.map encSy)[k]'(by simpa using hk) = encSy l[k] := by simp
 have h0 := hr 0 (by rw [hrow]; simp [encSy])
 have h1 := hr 1 (by rw [hrow]; simp [encSy])
 have h2 := hr 2 (by rw [hrow]; simp [encSy])
 simp only [hrow, encSy, List.getElem_cons_zero, List.getElem_cons_succ] at h0 h1 h2
 have e0 := h0.leaf_inv
 have e1 := h1.leaf_inv
 have e2 := h2.leaf_inv
 refine ⟨ab, off, hA, hb, ?_, ?_, ?_⟩
 · rw [← e0, ← hc 0 (by omega), Nat.add_zero]
 · rw [← e1, ← hc 1 (by omega)]
 rw [← e2, ← hc 2 (by omega)]
def truthV : Value := .agg #[.string ⟨#[36, 116, 114, 117, 101]⟩, .int .i64 0, .bool true]
theorem toList_inj (a b : ByteArray) : (a.toList = b.toList) = (a = b) := by
 rw [ByteArray.toList_eq, ByteArray.toList_eq]
 obtain ⟨⟨x⟩⟩ := a
 obtain ⟨⟨y⟩⟩ := b
 simp
instance : DecidableEq Sy := fun a b => decidable_of_iff (a.name = b.name ∧ a.ar = b.ar ∧ a.pr = b.pr) (by cases a; cases b; simp)
def symV (s : Sy) : Value := .agg #[.string s.name, .int .i64 s.ar, .bool s.pr]
def truthS : Sy := ⟨⟨#[36, 116, 114, 117, 101]⟩, 0, true⟩
theorem run_eq_sy (x y : Sy) (w : World) :
 (binOp .eql 65 (.agg #[.string x.name, .int .i64 x.ar, .bool x.pr]) (.agg #[.string y.name, .int .i64 y.ar, .bool y.pr])).run Tryz.prog w = .ok (.bool (decide (x = y))) w := by
 obtain ⟨a, m, p⟩ := x
 obtain ⟨b, n, q⟩ := y
 simp only [go_sem]
 simp [go_sem, toList_inj]
 by_cases h1 : a = b <;> by_cases h2 : m = n <;> by_cases h3 : p = q <;> simp [h1, h2, h3]
theorem equal_sy (w : World) (x y : Sy) : (Op.equal 65 (symV x) (symV y)).run Tryz.prog w = .ok (decide (x = y)) w := by
 have h := run_eq_sy x y w
 simp only [binOp, Sem.run_bind] at h
 unfold symV
 cases hr : (Op.equal 65 (.agg #[.string x.name, .int .i64 x.ar, .bool x.pr]) (.agg #[.string y.name, .int .i64 y.ar, .bool y.pr])).run Tryz.prog w with
 | ok b w1 => rw [hr] at h; simpa using h
 | halt b w1 => rw [hr] at h; simp [Result.andThen] at h
theorem check_sy (em : Bool) (w : World) (x : Sy) : (Instr.checkKey em 10000 65 (symV x)).run Tryz.prog w = .ok () w := by
 obtain ⟨n, hn⟩ : ∃ n, 10000 = n + 2 := ⟨9998, rfl⟩
 rw [hn]
 unfold symV
 rw [Instr.checkKey]
 have hs := MapKept.run_checkKey (P := Tryz.prog) (w := w) (kt := 9) (k := .string x.name) Tryz.underlying9 (by simp [MapKept.IsKey]) em n
 have hi := MapKept.run_checkKey (P := Tryz.prog) (w := w) (kt := 3) (k := .int .i64 x.ar) Tryz.underlying3 (by simp [MapKept.IsKey]) em n
 have hb := MapKept.run_checkKey (P := Tryz.prog) (w := w) (kt := 4) (k := .bool x.pr) Tryz.underlying4 (by simp [MapKept.IsKey]) em n
 simp [go_sem, run_underlying Tryz.underlying65, hs, hi, hb]
theorem ba_refl (a : ByteArray) : (a == a) = true := by rw [beq_toListBytes]; simp
theorem symK : KeyTy Tryz.prog 65 symV := by
 refine keyTy_asking (d := .struct (Tryz.prog.fieldsOf 65)) (by kernel_rfl) ?_ equal_sy check_sy ?_
 · intro x y; rfl
 intro x
 obtain ⟨n, hn⟩ : ∃ n, 10000 = n + 2 := ⟨9998, rfl⟩
 rw [hn]
 unfold symV
 rw [Instr.sameBits]
 simp [Instr.sameBits, ba_refl]
theorem zeroInt (w : World) : (zeroValue 3).run Tryz.prog w = .ok (.int .i64 0) w := by kernel_rfl
theorem truthP_any (w : World) : Calls Tryz.prog 50 #[] w (fun e w' => e = .returned truthV ∧ Below w.heap.size w w') := by
 go_enter Tryz.func50, Tryz.ntmps50
 go_wp2_with fail
 have hx := heap_alloc_new w (.cells #[.string ⟨#[36, 116, 114, 117, 101]⟩, .int .i64 0, .bool true] 65)
 have k0 := cell_of_row _ w.heap.size 0 _ _ _ hx
 have k1 := cell_of_row _ w.heap.size 1 _ _ _ hx
 have k2 := cell_of_row _ w.heap.size 2 _ _ _ hx
 refine bodyPost_ret (v := truthV) (by simp [results, Tryz.results50, go_sem, truthV, k0, k1, k2]) rfl ⟨rfl, below_box w _⟩
def IfE (Q : Prop) (w : World) (e : Ending) (w' : World) : Prop := ∃ n : Int, e = .returned (.int .i64 n) ∧ (Q → n = 0) ∧ Below w.heap.size w w'
def OneP (s : Sy) : Prop := NameP s.name ∧ 0 ≤ s.ar ∧ s.ar ≤ 6
theorem one28_any (s : Sy) (w : World) : Calls Tryz.prog 51 #[symV s] w (IfE (OneP s) w) := by
 obtain ⟨nm, ar, pr⟩ := s
 unfold symV
 dsimp only
 have hx1 := heap_alloc_new w (.cells #[.string nm, .int .i64 ar, .bool pr] 65)
 have hx1 : BoxN w.heap.size 65 #[.string nm, .int .i64 ar, .bool pr] _ := hx1
 have hB1 := below_box w (.cells #[.string nm, .int .i64 ar, .bool pr] 65)
 have hz1 : w.heap.size < (w.alloc (.cells #[.string nm, .int .i64 ar, .bool pr] 65)).heap.size := by simp
 have HX := Lh hx1
 have HB := Lh hB1
 have HZ := Lh hz1
 clear hx1 hB1 hz1
 go_enter Tryz.func51, Tryz.ntmps51
 go_upto_region 1 with fail
 have hx1 := HX.out
 have hB1 := HB.out
 have hz1 := HZ.out
 clear HX HB HZ
 generalize w.alloc (.cells #[.string nm, .int .i64 ar, .bool pr] 65) = w1 at hx1 hB1 hz1 ⊢
 have HX := Lh hx1
 have HB := Lh hB1
 have c0 : w1.cell? ⟨w.heap.size, 0, none⟩ = some (.string nm) := hx1.cell 0
 clear hx1 hB1
 go_wp2_with fail
 refine (named28_any nm w1).mono ?_
 rintro e w2 ⟨b, rfl, hb, hbl⟩
 have Hb := Lh hb
 have Hbl := Lh (HB.out.trans (hbl.mono (by omega)))
 have c1 : w2.cell? ⟨w.heap.size, 1, none⟩ = some (.int .i64 ar) := (hbl.cell (p := ⟨w.heap.size, 1, none⟩) hz1).trans (HX.out.cell 1)
 clear hb hbl c0 hz1
 cases b with
 | false =>
   go_wp2_with fail
   go_ret
   exact ⟨_, rfl, fun h => absurd (Hb.out h.1) (by decide), Hbl.out⟩
 | true =>
   by_cases h1 : ar < 0
   · go_wp2_with fail
     go_ret
     exact ⟨_, rfl, fun h => absurd h.2.1 (by dsimp only; omega), Hbl.out⟩
   have h1' : 0 ≤ ar := by omega
   by_cases h2 : 6 < ar
   · go_wp2_with fail
     go_ret
     exact ⟨_, rfl, fun h => absurd h.2.2 (by dsimp only; omega), Hbl.out⟩
   have h2' : ar ≤ 6 := by omega
   go_wp2_with fail
   go_ret
   exact ⟨_, rfl, fun _ => rfl, Hbl.out⟩
def SigP (sig : List Sy) : Prop := sig.length ≤ 96 ∧ ∃ tl, sig = truthS :: tl ∧ (∀ x ∈ tl, OneP x) ∧ tl.Nodup
def SigR (sig : List Sy) (w : World) (e : Ending) (w' : World) : Prop :=
 ∃ n : Int, e = .returned (.int .i64 n) ∧ (SigP sig → n = 0) ∧ (n = 0 → 0 < sig.length ∧ sig.length ≤ 96) ∧ Below w.heap.size w w'
theorem run_ne_sy (x y : Sy) (w : World) :
 (binOp .neq 65 (.agg #[.string x.name, .int .i64 x.ar, .bool x.pr]) (.agg #[.string y.name, .int .i64 y.ar, .bool y.pr])).run Tryz.prog w = .ok (.bool (!decide (x = y))) w := by
 obtain ⟨a, m, p⟩ := x
 obtain ⟨b, n, q⟩ := y
 simp only [go_sem]
 simp [go_sem, toList_inj]
 by_cases h1 : a = b <;> by_cases h2 : m = n <;> by_cases h3 : p = q <;> simp [h1, h2, h3]
theorem check28_any (sig : List Sy) (A : Option Addr) (cs B : Nat) (w : World) (hr : Rd w B (encSig sig) (.slice A sig.length cs)) (hB : B ≤ w.heap.size) (hlen : sig.length ≤ 1100000) :
 Calls Tryz.prog 28 #[.agg #[.slice A sig.length cs]] w (SigR sig w) := by
 have hb1 := below_box w (.cells #[.slice A sig.length cs] 24)
 have hx1 : Box1 w.heap.size 24 (.slice A sig.length cs) (w.alloc (.cells #[.slice A sig.length cs] 24)) := heap_alloc_new w _
 have hz1 : (w.alloc (.cells #[.slice A sig.length cs] 24)).heap.size = w.heap.size + 1 := by simp
 have HX := Lh hx1
 have HB := Lh hb1
 have HZ := Lh hz1
 have HR := Lh hr
 clear hx1 hb1 hz1 hr
 go_enter Tryz.func28, Tryz.ntmps28
 go_upto_region 1 with fail
 have hx1 := HX.out
 have hB1 := HB.out
 have hz1 := HZ.out
 clear HX HB HZ
 generalize w.alloc (.cells #[.slice A sig.length cs] 24) = w1 at hx1 hB1 hz1 ⊢
 have HX1 := Lh hx1
 have HB1 := Lh hB1
 have hz1l : w.heap.size < w1.heap.size := by omega
 have x10 := hx1.cell
 clear hx1 hB1 hz1
 by_cases h96 : 96 < sig.length
 · have h96' : (96 : Int) < (sig.length : Int) := by omega
   go_wp2_with fail
   go_ret
   exact ⟨_, rfl, fun h => absurd h.1 (by omega), fun h => (by cases h), HB1.out⟩
 have h96' : ¬ (96 : Int) < (sig.length : Int) := by omega
 by_cases h0 : sig.length = 0
 · have hl3 : ((sig.length : Int) == 0) = true := by simp [h0]
   have H0 := Lh h0
   clear h0
   go_upto_region 3 with fail
   obtain ⟨s0, hs0⟩ : ∃ s : Sy, s = truthS := ⟨_, rfl⟩
   clear x10
   refine bu 13 (fun w' => Below w1.heap.size w1 w') (fun wd hwd hbd => ?_) ?_
   · exact hwd ▸ hbd
   refine pu 0 (.pointer (some ⟨w.heap.size, 0, none⟩)) ?_
   refine ru 1 (.slice A sig.length cs) (fun w' hw => ?_) ?_
   · have q0 := (HX1.out.low hw).cell
     simp [execOp, go_sem, q0]
   refine pu 2 (.int .i64 (sig.length : Nat)) ?_
   refine ru 3 (.bool true) (fun w' hw => ?_) ?_
   · simp [execOp, go_sem, hl3]
   refine pu 4 (.bool true) ?_
   refine su 5 ?_
   refine su 6 ?_
   refine su 7 ?_
   refine su 8 ?_
   refine su 9 ?_
   refine su 10 ?_
   refine pu 11 (.bool true) ?_
   refine pu 12 (.bool true) ?_
   refine du (fun wz hS => ?_)
   have HSz := Lh hS
   clear hS
   go_wp2_with fail
   go_ret
   exact ⟨_, rfl, fun ⟨_, tl, h, _⟩ => absurd H0.out (by rw [h]; simp), fun h => (by cases h), HB1.out.trans (HSz.out.mono HB1.out.size)⟩
 have hl3 : ((sig.length : Int) == 0) = false := by rw [beq_eq_false_iff_ne]; omega
 have hpos : 0 < sig.length := by omega
 have hnil : sig ≠ [] := List.length_pos_iff.1 hpos
 have hl7 : ¬ ((sig.length : Int) ≤ 0) := by omega
 obtain ⟨ab, off, rfl, hab, k0, k1, k2⟩ := HR.out.sy_at hpos
 rw [Nat.zero_mul, Nat.add_zero] at k0 k1 k2
 obtain ⟨s0, hs0⟩ : ∃ s, sig[0] = s := ⟨_, rfl⟩
 rw [hs0] at k0 k1 k2
 have K0 := Lh ((HB1.out.cell (p := ⟨ab, off, none⟩) (show ab < w.heap.size by omega)).trans k0)
 have K1 := Lh ((HB1.out.cell (p := ⟨ab, off + 1, none⟩) (show ab < w.heap.size by omega)).trans k1)
 have K2 := Lh ((HB1.out.cell (p := ⟨ab, off + 2, none⟩) (show ab < w.heap.size by omega)).trans k2)
 have Hs0 := Lh hs0
 clear k0 k1 k2 h0 hs0
 go_upto_region 3 with fail
 clear x10
 by_cases hst : s0 = truthS
 · have hd : decide (s0 = truthS) = true := decide_eq_true hst
   refine bu 13 (fun w' => Below w1.heap.size w1 w') (fun wd hwd hbd => ?_) ?_
   · exact hwd ▸ hbd
   refine pu 0 (.pointer (some ⟨w.heap.size, 0, none⟩)) ?_
   refine ru 1 (.slice (some ⟨ab, off, none⟩) sig.length cs) (fun w' hw => ?_) ?_
   · have q0 := (HX1.out.low hw).cell
     simp [execOp, go_sem, q0]
   refine pu 2 (.int .i64 (sig.length : Nat)) ?_
   refine ru 3 (.bool false) (fun w' hw => ?_) ?_
   · simp [execOp, go_sem, hl3]
   refine pu 4 (.bool false) ?_
   refine pu 5 (.pointer (some ⟨w.heap.size, 0, none⟩)) ?_
   refine ru 6 (.slice (some ⟨ab, off, none⟩) sig.length cs) (fun w' hw => ?_) ?_
   · have q0 := (HX1.out.low hw).cell
     simp [execOp, go_sem, q0]
   refine ru 7 (.pointer (some ⟨ab, off, none⟩)) (fun w' hw => ?_) ?_
   · simp [execOp, go_sem, hl7, hnil]
   refine ru 8 (.agg #[.string s0.name, .int .i64 s0.ar, .bool s0.pr]) (fun w' hw => ?_) ?_
   · have k0 := (hw.cell (p := ⟨ab, off, none⟩) (show ab < w1.heap.size by omega)).trans K0.out
     have k1 := (hw.cell (p := ⟨ab, off + 1, none⟩) (show ab < w1.heap.size by omega)).trans K1.out
     have k2 := (hw.cell (p := ⟨ab, off + 2, none⟩) (show ab < w1.heap.size by omega)).trans K2.out
     simp [execOp, go_sem, k0, k1, k2]
   refine cu 9 (truthV) (fun w' hw => (truthP_any w').mono ?_) ?_
   · rintro e w2 ⟨rfl, hb⟩
     exact ⟨rfl, hw.trans (hb.mono hw.size)⟩
   refine ru 10 (.bool false) (fun w' hw => ?_) ?_
   · have hq := run_ne_sy s0 truthS w'
     rw [hd] at hq
     simp only [go_sem] at hq
     simp only [execOp, go_sem]
     simp [go_sem, truthV, truthS] at hq ⊢
     by_cases z1 : s0.name.toList = [36, 116, 114, 117, 101] <;> by_cases z2 : s0.ar = 0 <;> by_cases z3 : s0.pr = false <;> simp [z1, z2, z3] at hq ⊢
   refine pu 11 (.bool false) ?_
   refine pu 12 (.bool false) ?_
   refine du (fun wz hS => ?_)
   have HSz := Lh hS
   clear hS
   have hmm := @run_makeMap Tryz.prog
   have Hst := Lh hst
   have hlowz := HB1.out.trans (HSz.out.mono HB1.out.size)
   have q0 : wz.cell? ⟨w.heap.size, 0, none⟩ = some (.slice (some ⟨ab, off, none⟩) sig.length cs) := (HX1.out.low HSz.out).cell
   have hzz := HSz.out.size
   have Hlowz := Lh hlowz
   have hcap : sig.length ≤ cs := by
    obtain ⟨_, _, e, h, _⟩ := Rd.row_form HR.out
    injection e with _ _ e
    omega
   have hcap2 : ¬ (cs < sig.length) := by omega
   clear hst hd hlowz
   go_upto_region 6 with fail
   obtain ⟨gm, hgm⟩ : ∃ gm, wz.heap.size = gm := ⟨_, rfl⟩
   have hmp : MapF (wz.alloc (.map #[] 0)) wz.heap.size symV (fun _ => none) := MapF.made wz symV
   have hb5 := below_box wz (.map #[] 0)
   have q5 := (hb5.cell (p := ⟨w.heap.size, 0, none⟩) (show w.heap.size < wz.heap.size by omega)).trans q0
   generalize wz.alloc (.map #[] 0) = w5 at hmp hb5 q5 ⊢
   rw [hgm] at hmp
   rw [hgm]
   have hz5 := hb5.size
   have Hmp := Lh hmp
   have Hlow5 := Lh (Hlowz.out.trans (hb5.mono (by omega)))
   have Hgm := Lh hgm
   have hgw : w.heap.size < gm := by omega
   have q5 : w5.cell? ⟨w.heap.size, 0, none⟩ = some (.slice (some ⟨ab, off, none⟩) sig.length cs) := q5
   have h1le : ¬ ((sig.length : Int) < 1) := by omega
   clear hmp hb5 q0 hgm
   have hfin : SigP sig → (0 : Int) = 0 := fun _ => rfl
   have hN : 0 < sig.length ∧ sig.length ≤ 96 := ⟨hpos, by omega⟩
   have HN := Lh hN
   clear hfin hN
   by_cases hc1 : cs = 1
   · have hl1 : sig.length = 1 := by omega
     have hm0 : sig.length - 1 = 0 := by omega
     clear hcap hcap2 hl1
     subst hc1
     go_wp2_with fail
     go_loopw [32] (fun c wr => c = .int .i64 0 ∧ wr = w5) (fun _ _ => 0)
     case atStart => simp
     obtain ⟨rfl, rfl⟩ := hrel
     go_wp2_with fail
     go_ret
     exact ⟨0, rfl, fun _ => rfl, fun _ => HN.out, Hlow5.out⟩
   have hc1' : ¬ (cs - 1 = 0) := by omega
   go_wp2_with fail
   obtain ⟨m, hm⟩ : ∃ m, sig.length - 1 = m := ⟨_, rfl⟩
   rw [hm]
   have Hm := Lh hm
   clear hm hmm q5
   go_loopw [32] (fun c wr => ∃ (k : Nat) (Mp : Sy → Option Value), k ≤ m ∧ c = .int .i64 k ∧ MapF wr gm symV Mp ∧ (∀ y, Mp y ≠ none → y ∈ (sig.drop 1).take k) ∧ Upd w5 wr (fun b => b = gm)) (fun c _ => m - (intOf c).toNat)
   case atStart => exact ⟨0, fun _ => none, Nat.zero_le _, rfl, Hmp.out, fun y h => absurd rfl h, Upd.refl _ _⟩
   obtain ⟨k, Mp, hk, rfl, hmp, hseen, hur⟩ := hrel
   have hzr := hur.size
   have hlowr : Below w.heap.size w wr := Hlow5.out.trans (hur.toLow (by omega) (by rintro b rfl; omega))
   have Hmpr := Lh hmp
   have Hseen := Lh hseen
   have Hur := Lh hur
   have Hlowr := Lh hlowr
   clear hmp hseen hur
   by_cases hlt : k < m
   · have hlt2 : ¬ ((m : Int) ≤ (k : Int)) := by omega
     have hks : k + 1 < sig.length := by have := Hm.out; omega
     obtain ⟨ab', off', he, hab', k0, k1, k2⟩ := (HR.out.low hlowr hB).sy_at hks
     injection he with he
     injection he with e1 e2 _
     subst e1 e2
     have hoo : off + (k + 1) * 3 = off + 3 + k * 3 := by omega
     rw [hoo] at k0 k1 k2
     obtain ⟨x, hx⟩ : ∃ x, sig[k + 1] = x := ⟨_, rfl⟩
     rw [hx] at k0 k1 k2
     have Hx := Lh hx
     clear hx hlowr hoo
     go_upto_region 9 with fail
     obtain ⟨bx, hbx⟩ : ∃ bx, wr.heap.size = bx := ⟨_, rfl⟩
     have hxx := heap_alloc_new wr (.cells #[.string x.name, .int .i64 x.ar, .bool x.pr] 65)
     have hxx : BoxN wr.heap.size 65 #[.string x.name, .int .i64 x.ar, .bool x.pr] _ := hxx
     have hBx := below_box wr (.cells #[.string x.name, .int .i64 x.ar, .bool x.pr] 65)
     have hzx : wr.heap.size < (wr.alloc (.cells #[.string x.name, .int .i64 x.ar, .bool x.pr] 65)).heap.size := by simp
     generalize wr.alloc (.cells #[.string x.name, .int .i64 x.ar, .bool x.pr] 65) = w6 at hxx hBx hzx ⊢
     rw [hbx] at hxx
     rw [hbx]
     have HX6 := Lh hxx
     have HB6 := Lh hBx
     have Hbx := Lh hbx
     have hbl6 : bx < w6.heap.size := by omega
     have b0 : w6.cell? ⟨bx, 0, none⟩ = some (.string x.name) := hxx.cell 0
     have b1 : w6.cell? ⟨bx, 1, none⟩ = some (.int .i64 x.ar) := hxx.cell 1
     have b2 : w6.cell? ⟨bx, 2, none⟩ = some (.bool x.pr) := hxx.cell 2
     have hgb : bx ≠ gm := by have := Hmpr.out.lt; omega
     have hgr : gm < wr.heap.size := Hmpr.out.lt
     clear hxx hBx hbx k0 k1 k2
     go_wp2_with fail
     refine (one28_any x w6).mono ?_
     rintro e w7 ⟨n, rfl, hn, hb7⟩
     have hlow7 := HB6.out.trans (hb7.mono (Nat.le_of_lt hzx))
     have Hn := Lh hn
     have Hlow7 := Lh hlow7
     have b0 := (hb7.cell (p := ⟨bx, 0, none⟩) hbl6).trans b0
     have b1 := (hb7.cell (p := ⟨bx, 1, none⟩) hbl6).trans b1
     have b2 := (hb7.cell (p := ⟨bx, 2, none⟩) hbl6).trans b2
     have b0 : w7.cell? ⟨bx, 0, none⟩ = some (.string x.name) := b0
     have b1 : w7.cell? ⟨bx, 1, none⟩ = some (.int .i64 x.ar) := b1
     have b2 : w7.cell? ⟨bx, 2, none⟩ = some (.bool x.pr) := b2
     have HlW := Lh (Hlowr.out.trans (hlow7.mono (by omega)))
     have hz7 := hlow7.size
     clear hn hb7 hlow7
     by_cases hn0 : n = 0
     · have hnb : (n != 0) = false := by rw [hn0]; rfl
       have Hm7 := Lh (Hmpr.out.low Hlow7.out)
       have hlk := Hm7.out.lookup_ok symK Tryz.underlying93 (zeroInt w7) x
       unfold symV at hlk
       by_cases hMp : Mp x = none
       · rw [hMp] at hlk
         have hlk : (Instr.lookup 93 (.map (some gm)) (.agg #[.string x.name, .int .i64 x.ar, .bool x.pr]) true).run Tryz.prog w7 = .ok (.tuple #[.int .i64 0, .bool false]) w7 := hlk
         obtain ⟨w8, hup, hm8, hu8⟩ := Hm7.out.update symK Tryz.underlying93 x (.int .i64 (k : Nat))
         have hup : (Instr.mapUpdate 93 (.map (some gm)) (.agg #[.string x.name, .int .i64 x.ar, .bool x.pr]) (.int .i64 (k : Nat))).run Tryz.prog w7 = .ok () w8 := hup
         have Hm8 := Lh hm8
         have Hu8 := Lh hu8
         clear hm8 hu8 hMp hn0
         go_wp2_with fail
         try simp only [Act.put]
         go_roundw
         case rel =>
          refine ⟨k + 1, _, by omega, by go_num, Hm8.out, fun y hy => ?_, (Hur.out.trans (Upd.low Hlow7.out (fun b => b = gm)) (fun _ e => .inl e)).trans Hu8.out (fun _ e => .inl e)⟩
          have hkd : k < (sig.drop 1).length := by rw [List.length_drop]; omega
          rw [List.take_succ_eq_append_getElem hkd]
          by_cases hyx : y = x
          · refine List.mem_append.2 (.inr ?_)
            rw [hyx, List.mem_singleton, List.getElem_drop, ← Hx.out]
            congr 1; omega
          rw [if_neg hyx] at hy
          exact List.mem_append.2 (.inl (Hseen.out y hy))
         case measure => simp [intOf]; omega
       obtain ⟨v, hv⟩ := Option.ne_none_iff_exists'.1 hMp
       rw [hv] at hlk
       have hlk : (Instr.lookup 93 (.map (some gm)) (.agg #[.string x.name, .int .i64 x.ar, .bool x.pr]) true).run Tryz.prog w7 = .ok (.tuple #[v, .bool true]) w7 := hlk
       have hno : ¬ SigP sig := by
        rintro ⟨_, tl, ht, _, hnd⟩
        have hin := Hseen.out x hMp
        have hxx := Hx.out
        subst ht
        rw [List.getElem_cons_succ] at hxx
        rw [List.drop_succ_cons, List.drop_zero] at hin
        obtain ⟨i, hi, he⟩ := List.mem_iff_getElem.1 hin
        rw [List.length_take] at hi
        rw [List.getElem_take, ← hxx] at he
        have := (List.getElem_inj hnd).1 he
        omega
       have Hno := Lh hno
       clear hMp hn0 hv hno
       go_wp2_with fail
       go_ret
       exact ⟨113, rfl, fun h => absurd h Hno.out, fun h => absurd h (by decide), HlW.out⟩
     have hnb : (n != 0) = true := by rw [bne_iff_ne]; exact hn0
     have hone : SigP sig → OneP x := by
      rintro ⟨_, tl, ht, ho, _⟩
      have hxx := Hx.out
      subst ht
      rw [List.getElem_cons_succ] at hxx
      rw [← hxx]
      exact ho _ (List.getElem_mem _)
     have Hone := Lh hone
     have Hn0 := Lh hn0
     clear hone hn0
     go_wp2_with fail
     go_ret
     exact ⟨n, rfl, fun h => absurd (Hn.out (Hone.out h)) Hn0.out, fun h => absurd h Hn0.out, HlW.out⟩
   go_wp2_with fail
   go_ret
   exact ⟨0, rfl, fun _ => rfl, fun _ => HN.out, Hlowr.out⟩
 have hd : decide (s0 = truthS) = false := decide_eq_false hst
 refine bu 13 (fun w' => Below w1.heap.size w1 w') (fun wd hwd hbd => ?_) ?_
 · exact hwd ▸ hbd
 refine pu 0 (.pointer (some ⟨w.heap.size, 0, none⟩)) ?_
 refine ru 1 (.slice (some ⟨ab, off, none⟩) sig.length cs) (fun w' hw => ?_) ?_
 · have q0 := (HX1.out.low hw).cell
   simp [execOp, go_sem, q0]
 refine pu 2 (.int .i64 (sig.length : Nat)) ?_
 refine ru 3 (.bool false) (fun w' hw => ?_) ?_
 · simp [execOp, go_sem, hl3]
 refine pu 4 (.bool false) ?_
 refine pu 5 (.pointer (some ⟨w.heap.size, 0, none⟩)) ?_
 refine ru 6 (.slice (some ⟨ab, off, none⟩) sig.length cs) (fun w' hw => ?_) ?_
 · have q0 := (HX1.out.low hw).cell
   simp [execOp, go_sem, q0]
 refine ru 7 (.pointer (some ⟨ab, off, none⟩)) (fun w' hw => ?_) ?_
 · simp [execOp, go_sem, hl7, hnil]
 refine ru 8 (.agg #[.string s0.name, .int .i64 s0.ar, .bool s0.pr]) (fun w' hw => ?_) ?_
 · have k0 := (hw.cell (p := ⟨ab, off, none⟩) (show ab < w1.heap.size by omega)).trans K0.out
   have k1 := (hw.cell (p := ⟨ab, off + 1, none⟩) (show ab < w1.heap.size by omega)).trans K1.out
   have k2 := (hw.cell (p := ⟨ab, off + 2, none⟩) (show ab < w1.heap.size by omega)).trans K2.out
   simp [execOp, go_sem, k0, k1, k2]
 refine cu 9 (truthV) (fun w' hw => (truthP_any w').mono ?_) ?_
 · rintro e w2 ⟨rfl, hb⟩
   exact ⟨rfl, hw.trans (hb.mono hw.size)⟩
 refine ru 10 (.bool true) (fun w' hw => ?_) ?_
 · have hq := run_ne_sy s0 truthS w'
   rw [hd] at hq
   simp only [go_sem] at hq
   simp only [execOp, go_sem]
   simp [go_sem, truthV, truthS] at hq ⊢
   by_cases z1 : s0.name.toList = [36, 116, 114, 117, 101] <;> by_cases z2 : s0.ar = 0 <;> by_cases z3 : s0.pr = false <;> simp [z1, z2, z3] at hq ⊢
 refine pu 11 (.bool true) ?_
 refine pu 12 (.bool true) ?_
 refine du (fun wz hS => ?_)
 have HSz := Lh hS
 clear hS
 have Hst := Lh hst
 clear hst hd
 go_wp2_with fail
 go_ret
 refine ⟨_, rfl, fun ⟨_, tl, h, _⟩ => absurd ?_ Hst.out, fun h => (by cases h), HB1.out.trans (HSz.out.mono HB1.out.size)⟩
 rw [← Hs0.out]
 simp only [h, List.getElem_cons_zero]
end Go.Proofs.YtbkpkahhdlomiaaGreat
