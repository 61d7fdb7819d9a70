/-
 Part 10 of the proof over the checker:walks and plain laws.
-/
import Derived.Test.YtiaoabfndnidiaaMI
import Derived.Deep.RegionWith
set_option maxRecDepth 100000
set_option maxHeartbeats 8000000
set_option linter.unusedSimpArgs false
set_option linter.unusedVariables false
namespace Go.Proofs.Ytiaoabfndnidiaa
open Go.RowKit
def kA (s:Sp)(k:Nat):Int:=s.lits[k]?.getD 0
def aH1 (m:Mt)(t:Tm):Bool:=fE (kO m) false t
noncomputable def jZ (s:Sp)(c d:Cl)(x y:Lt):Option Cl:=
 match atT (aV y (ri s 1)) s.pos with
 | none=>none
 | some p=>
  if iV (aV x (ri s 0)) (aV x (!ri s 0)) (aV y (ri s 1)) (aV y (!ri s 1)) s.pos.length=false then none
  else if s.rule=4 then
   (
    if p.fn<0 then none
    else match cB (aV x (ri s 0)) p with
     | some σ=>some (gU σ (c.eraseIdx (li s 0)++eD d (li s 1) y (ri s 1) s.pos (aV x (!ri s 0))))
     | none=>none)
  else if c.length≠1 then none
  else if (bH [] (aV x (ri s 0)) p).1=false then none
  else if aH1 (bH [] (aV x (ri s 0)) p).2 (aV x (!ri s 0))=true then none
  else some (eD d (li s 1) y (ri s 1) s.pos (cX (Mt.get (bH [] (aV x (ri s 0)) p).2) (aV x (!ri s 0))))
noncomputable def dR (s:Sp)(c d:Cl):Option Cl:=
 if aY s 2 2 2 true=false\/kA s 0<0\/(c.length:Int)<=kA s 0\/kA s 1<0\/(d.length:Int)<=kA s 1 then none
 else match c[li s 0]?,(cW d)[li s 1]? with
  | some x,some y=>if x.neg=true then none else jZ s c (cW d) x y
  | _,_=>none
theorem aH2 (s:Sp)(c d:Cl)(v1 v2 v3 v4 v5 vc vd:Value)(B:Nat)(w:World)(hs:RdS w B s v1 v2 v3 v4 v5)(hc:Rd w B (aT c) vc)(hd:Rd w B (aT d) vd)(hB:B<=w.heap.size)(hcn:c.length<=1000)(hdn:d.length<=1000)
 (hszc:∀x∈c,aK x.l<=300/\aK x.r<=300) (hszd:∀x∈cW d,aK x.l<=300/\aK x.r<=300) (hzc:aR c<=1000000) (hzd:aR d<=1000000) (hzm:aR (cW d)<=1000000) (hlow:∀x∈d,aD6 x=true) (hpat:∀x∈c,eV x.l=true/\eV x.r=true):
 Calls Try.prog 50 #[.agg #[.int .i64 s.rule,v1,v2,v3,v4,v5],vc,vd] w (oN (dR s c d) w):=by
 obtain⟨Ac,cc,rfl,-,-,-⟩:=Rd.cl_form hc;obtain⟨Ad,cd,rfl,-,-,-⟩:=Rd.cl_form hd;have Hc:=Lh hc;have Hd:=Lh hd;have HStp:=Lh hs;cases hbn:aY s 2 2 2 true with
 | false=>
  have Hno:=Lh (show dR s c d=none by unfold dR;rw[if_pos (.inl hbn)]);have Hbn:=Lh hbn;clear hs hc hd hbn;go_enter Try.func50,Try.ntmps50;go_upto_region 1 with fail
  have hbx1:=aD w (.cells #[.int .i64 s.rule,v1,v2,v3,v4,v5] 45);have hx1:dH w.heap.size 45 (.int .i64 s.rule) v1 v2 v3 v4 v5 (w.alloc (.cells #[.int .i64 s.rule,v1,v2,v3,v4,v5] 45)):=heap_alloc_new w _;have hz1:(w.alloc (.cells #[.int .i64 s.rule,v1,v2,v3,v4,v5] 45)).heap.size=w.heap.size+1:=by simp
  generalize w.alloc (.cells #[.int .i64 s.rule,v1,v2,v3,v4,v5] 45)=w1 at hbx1 hx1 hz1 ⊢;obtain⟨y0,y1,y2,y3,y4,y5⟩:=hx1.cells;have HX1:=Lh hx1;have HB1:=Lh hbx1;have hnm:=aN s 2 2 2 true v1 _ _ v4 v5 B w1 (HStp.out.low hbx1 hB);have Hnm:=Lh hnm;clear hx1 hbx1 hnm;go_wp2_with (
   go_at_call 46
   refine Hnm.out.mono ?_;rintro e w3 ⟨rfl,hb3⟩;rw[Hbn.out];have Hb3:=Lh hb3;clear hb3)
  refine bodyPost_ret (v:=.tuple #[.slice none 0 0,.bool false]) (by simp[results,Try.results50,go_sem]) rfl ?_;rw[Hno.out];refine⟨?_,_,rfl,λc h=>by cases h⟩;exact HB1.out.trans (Hb3.out.mono (by omega))
 | true=>
  have hlen:s.lits.length=2:=by have:=hbn;unfold aY at this;simp at this;exact this.1.2
  have hrl:s.right.length=2:=by have:=hbn;unfold aY at this;simp at this;exact this.2
  obtain⟨-,-,A2,c2,A3,c3,-,-,-,-,-,rfl,rfl,-⟩:=hs.forms;have hli:=hs.lits;have hri:=hs.right;unfold bM at hli;unfold wI at hri;obtain⟨a2,o2,rfl,ha2,e5⟩:=Rd.leaf_at (f:=λn=>.int .i64 n) hli (k:=0) (by omega);obtain⟨a2',o2',hA2',-,e6⟩:=Rd.leaf_at (f:=λn=>.int .i64 n) hli (k:=1) (by omega);injection hA2' with hA2'
  injection hA2' with q1 q2
  subst q1 q2;obtain⟨a3,o3,rfl,ha3,e7⟩:=Rd.leaf_at (f:=λb=>.bool b) hri (k:=0) (by omega);obtain⟨a3',o3',hA3',-,e8⟩:=Rd.leaf_at (f:=λb=>.bool b) hri (k:=1) (by omega);injection hA3' with hA3'
  injection hA3' with q1 q2
  subst q1 q2;obtain⟨i0,hi0⟩:∃i,s.lits[0]'(by omega)=i:=⟨_,rfl⟩;obtain⟨i1,hi1⟩:∃i,s.lits[1]'(by omega)=i:=⟨_,rfl⟩;obtain⟨r0,hr0⟩:∃i,s.right[0]'(by omega)=i:=⟨_,rfl⟩;obtain⟨r1,hr1⟩:∃i,s.right[1]'(by omega)=i:=⟨_,rfl⟩;have hI0:kA s 0=i0:=by unfold kA;rw[List.getElem?_eq_getElem (by omega),hi0];rfl
  have hI1:kA s 1=i1:=by unfold kA;rw[List.getElem?_eq_getElem (by omega),hi1];rfl
  have hR0:ri s 0=r0:=by unfold ri;rw[List.getElem?_eq_getElem (by omega),hr0];rfl
  have hR1:ri s 1=r1:=by unfold ri;rw[List.getElem?_eq_getElem (by omega),hr1];rfl
  rw[hi0,Nat.add_zero]at e5;rw[hi1]at e6;rw[hr0,Nat.add_zero]at e7;rw[hr1]at e8;rw[hlen,hrl]at HStp ⊢;have hm0:dR s c d=if i0<0\/(c.length:Int)<=i0\/i1<0\/(d.length:Int)<=i1 then none
   else match c[i0.toNat]?,(cW d)[i1.toNat]? with
    | some x,some y=>if x.neg=true then none else jZ s c (cW d) x y
    | _,_=>none:=by
   unfold dR;have hl0:li s 0=i0.toNat:=by rw[<-hI0];rfl
   have hl1:li s 1=i1.toNat:=by rw[<-hI1];rfl
   rw[hbn,hI0,hI1,hl0,hl1];simp only[Bool.true_eq_false,false_or]
  have Hm0:=Lh hm0;have HI0:=Lh hI0;have HI1:=Lh hI1;have HR0:=Lh hR0;have HR1:=Lh hR1;have Hbn:=Lh hbn;have E5:=Lh e5;have E6:=Lh e6;have E7:=Lh e7;have E8:=Lh e8;clear hs hc hd hbn hlen hrl hli hri e5 e6 e7 e8 hi0 hi1 hr0 hr1 hI0 hI1 hR0 hR1 hm0;by_cases h0:i0<0
  . have Hno:=Lh (show dR s c d=none by rw[Hm0.out,if_pos (.inl h0)]);go_enter Try.func50,Try.ntmps50;go_upto_region 1 with fail
    have hbx1:=aD w (.cells #[.int .i64 s.rule,v1,(.slice (some ⟨a2,o2,none⟩) 2 c2),(.slice (some ⟨a3,o3,none⟩) 2 c3),v4,v5] 45);have hx1:dH w.heap.size 45 (.int .i64 s.rule) v1 (.slice (some ⟨a2,o2,none⟩) 2 c2) (.slice (some ⟨a3,o3,none⟩) 2 c3) v4 v5 (w.alloc (.cells #[.int .i64 s.rule,v1,(.slice (some ⟨a2,o2,none⟩) 2 c2),(.slice (some ⟨a3,o3,none⟩) 2 c3),v4,v5] 45)):=heap_alloc_new w _;have hz1:(w.alloc (.cells #[.int .i64 s.rule,v1,(.slice (some ⟨a2,o2,none⟩) 2 c2),(.slice (some ⟨a3,o3,none⟩) 2 c3),v4,v5] 45)).heap.size=w.heap.size+1:=(by simp);generalize w.alloc (.cells #[.int .i64 s.rule,v1,(.slice (some ⟨a2,o2,none⟩) 2 c2),(.slice (some ⟨a3,o3,none⟩) 2 c3),v4,v5] 45)=w1 at hbx1 hx1 hz1 ⊢;obtain⟨y0,y1,y2,y3,y4,y5⟩:=hx1.cells;have HX1:=Lh hx1;have HB1:=Lh hbx1;have hnm:=aN s 2 2 2 true v1 _ _ v4 v5 B w1 (HStp.out.low hbx1 hB);have Hnm:=Lh hnm;clear hx1 hbx1 hnm;have e5:=(HB1.out.cell (p:=⟨a2,o2,none⟩) (show a2<w.heap.size by omega)).trans E5.out;have e6:=(HB1.out.cell (p:=⟨a2,o2+1,none⟩) (show a2<w.heap.size by omega)).trans E6.out;go_wp2_with (
     go_at_call 46
     refine Hnm.out.mono ?_;rintro e w3 ⟨rfl,hb3⟩;rw[Hbn.out];have z2:=(hb3.cell (p:=⟨w.heap.size,2,none⟩) (show w.heap.size<w1.heap.size by omega)).trans y2;have z5:=(hb3.cell (p:=⟨a2,o2,none⟩) (show a2<w1.heap.size by omega)).trans e5;have z6:=(hb3.cell (p:=⟨a2,o2+1,none⟩) (show a2<w1.heap.size by omega)).trans e6;have Hb3:=Lh hb3;clear hb3)
    refine bodyPost_ret (v:=.tuple #[.slice none 0 0,.bool false]) (by simp[results,Try.results50,go_sem]) rfl ?_;rw[Hno.out];refine⟨?_,_,rfl,λc h=>by cases h⟩;exact HB1.out.trans (Hb3.out.mono (by omega))
  by_cases h1:(c.length:Int)<=i0
  . have Hno:=Lh (show dR s c d=none by rw[Hm0.out,if_pos (.inr (.inl h1))]);go_enter Try.func50,Try.ntmps50;go_upto_region 1 with fail
    have hbx1:=aD w (.cells #[.int .i64 s.rule,v1,(.slice (some ⟨a2,o2,none⟩) 2 c2),(.slice (some ⟨a3,o3,none⟩) 2 c3),v4,v5] 45);have hx1:dH w.heap.size 45 (.int .i64 s.rule) v1 (.slice (some ⟨a2,o2,none⟩) 2 c2) (.slice (some ⟨a3,o3,none⟩) 2 c3) v4 v5 (w.alloc (.cells #[.int .i64 s.rule,v1,(.slice (some ⟨a2,o2,none⟩) 2 c2),(.slice (some ⟨a3,o3,none⟩) 2 c3),v4,v5] 45)):=heap_alloc_new w _;have hz1:(w.alloc (.cells #[.int .i64 s.rule,v1,(.slice (some ⟨a2,o2,none⟩) 2 c2),(.slice (some ⟨a3,o3,none⟩) 2 c3),v4,v5] 45)).heap.size=w.heap.size+1:=(by simp);generalize w.alloc (.cells #[.int .i64 s.rule,v1,(.slice (some ⟨a2,o2,none⟩) 2 c2),(.slice (some ⟨a3,o3,none⟩) 2 c3),v4,v5] 45)=w1 at hbx1 hx1 hz1 ⊢;obtain⟨y0,y1,y2,y3,y4,y5⟩:=hx1.cells;have HX1:=Lh hx1;have HB1:=Lh hbx1;have hnm:=aN s 2 2 2 true v1 _ _ v4 v5 B w1 (HStp.out.low hbx1 hB);have Hnm:=Lh hnm;clear hx1 hbx1 hnm;have e5:=(HB1.out.cell (p:=⟨a2,o2,none⟩) (show a2<w.heap.size by omega)).trans E5.out;have e6:=(HB1.out.cell (p:=⟨a2,o2+1,none⟩) (show a2<w.heap.size by omega)).trans E6.out;go_wp2_with (
     go_at_call 46
     refine Hnm.out.mono ?_;rintro e w3 ⟨rfl,hb3⟩;rw[Hbn.out];have z2:=(hb3.cell (p:=⟨w.heap.size,2,none⟩) (show w.heap.size<w1.heap.size by omega)).trans y2;have z5:=(hb3.cell (p:=⟨a2,o2,none⟩) (show a2<w1.heap.size by omega)).trans e5;have z6:=(hb3.cell (p:=⟨a2,o2+1,none⟩) (show a2<w1.heap.size by omega)).trans e6;have Hb3:=Lh hb3;clear hb3)
    refine bodyPost_ret (v:=.tuple #[.slice none 0 0,.bool false]) (by simp[results,Try.results50,go_sem]) rfl ?_;rw[Hno.out];refine⟨?_,_,rfl,λc h=>by cases h⟩;exact HB1.out.trans (Hb3.out.mono (by omega))
  by_cases h2:i1<0
  . have Hno:=Lh (show dR s c d=none by rw[Hm0.out,if_pos (.inr (.inr (.inl h2)))]);go_enter Try.func50,Try.ntmps50;go_upto_region 1 with fail
    have hbx1:=aD w (.cells #[.int .i64 s.rule,v1,(.slice (some ⟨a2,o2,none⟩) 2 c2),(.slice (some ⟨a3,o3,none⟩) 2 c3),v4,v5] 45);have hx1:dH w.heap.size 45 (.int .i64 s.rule) v1 (.slice (some ⟨a2,o2,none⟩) 2 c2) (.slice (some ⟨a3,o3,none⟩) 2 c3) v4 v5 (w.alloc (.cells #[.int .i64 s.rule,v1,(.slice (some ⟨a2,o2,none⟩) 2 c2),(.slice (some ⟨a3,o3,none⟩) 2 c3),v4,v5] 45)):=heap_alloc_new w _;have hz1:(w.alloc (.cells #[.int .i64 s.rule,v1,(.slice (some ⟨a2,o2,none⟩) 2 c2),(.slice (some ⟨a3,o3,none⟩) 2 c3),v4,v5] 45)).heap.size=w.heap.size+1:=(by simp);generalize w.alloc (.cells #[.int .i64 s.rule,v1,(.slice (some ⟨a2,o2,none⟩) 2 c2),(.slice (some ⟨a3,o3,none⟩) 2 c3),v4,v5] 45)=w1 at hbx1 hx1 hz1 ⊢;obtain⟨y0,y1,y2,y3,y4,y5⟩:=hx1.cells;have HX1:=Lh hx1;have HB1:=Lh hbx1;have hnm:=aN s 2 2 2 true v1 _ _ v4 v5 B w1 (HStp.out.low hbx1 hB);have Hnm:=Lh hnm;clear hx1 hbx1 hnm;have e5:=(HB1.out.cell (p:=⟨a2,o2,none⟩) (show a2<w.heap.size by omega)).trans E5.out;have e6:=(HB1.out.cell (p:=⟨a2,o2+1,none⟩) (show a2<w.heap.size by omega)).trans E6.out;go_wp2_with (
     go_at_call 46
     refine Hnm.out.mono ?_;rintro e w3 ⟨rfl,hb3⟩;rw[Hbn.out];have z2:=(hb3.cell (p:=⟨w.heap.size,2,none⟩) (show w.heap.size<w1.heap.size by omega)).trans y2;have z5:=(hb3.cell (p:=⟨a2,o2,none⟩) (show a2<w1.heap.size by omega)).trans e5;have z6:=(hb3.cell (p:=⟨a2,o2+1,none⟩) (show a2<w1.heap.size by omega)).trans e6;have Hb3:=Lh hb3;clear hb3)
    refine bodyPost_ret (v:=.tuple #[.slice none 0 0,.bool false]) (by simp[results,Try.results50,go_sem]) rfl ?_;rw[Hno.out];refine⟨?_,_,rfl,λc h=>by cases h⟩;exact HB1.out.trans (Hb3.out.mono (by omega))
  by_cases h3:(d.length:Int)<=i1
  . have Hno:=Lh (show dR s c d=none by rw[Hm0.out,if_pos (.inr (.inr (.inr h3)))]);go_enter Try.func50,Try.ntmps50;go_upto_region 1 with fail
    have hbx1:=aD w (.cells #[.int .i64 s.rule,v1,(.slice (some ⟨a2,o2,none⟩) 2 c2),(.slice (some ⟨a3,o3,none⟩) 2 c3),v4,v5] 45);have hx1:dH w.heap.size 45 (.int .i64 s.rule) v1 (.slice (some ⟨a2,o2,none⟩) 2 c2) (.slice (some ⟨a3,o3,none⟩) 2 c3) v4 v5 (w.alloc (.cells #[.int .i64 s.rule,v1,(.slice (some ⟨a2,o2,none⟩) 2 c2),(.slice (some ⟨a3,o3,none⟩) 2 c3),v4,v5] 45)):=heap_alloc_new w _;have hz1:(w.alloc (.cells #[.int .i64 s.rule,v1,(.slice (some ⟨a2,o2,none⟩) 2 c2),(.slice (some ⟨a3,o3,none⟩) 2 c3),v4,v5] 45)).heap.size=w.heap.size+1:=(by simp);generalize w.alloc (.cells #[.int .i64 s.rule,v1,(.slice (some ⟨a2,o2,none⟩) 2 c2),(.slice (some ⟨a3,o3,none⟩) 2 c3),v4,v5] 45)=w1 at hbx1 hx1 hz1 ⊢;obtain⟨y0,y1,y2,y3,y4,y5⟩:=hx1.cells;have HX1:=Lh hx1;have HB1:=Lh hbx1;have hnm:=aN s 2 2 2 true v1 _ _ v4 v5 B w1 (HStp.out.low hbx1 hB);have Hnm:=Lh hnm;clear hx1 hbx1 hnm;have e5:=(HB1.out.cell (p:=⟨a2,o2,none⟩) (show a2<w.heap.size by omega)).trans E5.out;have e6:=(HB1.out.cell (p:=⟨a2,o2+1,none⟩) (show a2<w.heap.size by omega)).trans E6.out;go_wp2_with (
     go_at_call 46
     refine Hnm.out.mono ?_;rintro e w3 ⟨rfl,hb3⟩;rw[Hbn.out];have z2:=(hb3.cell (p:=⟨w.heap.size,2,none⟩) (show w.heap.size<w1.heap.size by omega)).trans y2;have z5:=(hb3.cell (p:=⟨a2,o2,none⟩) (show a2<w1.heap.size by omega)).trans e5;have z6:=(hb3.cell (p:=⟨a2,o2+1,none⟩) (show a2<w1.heap.size by omega)).trans e6;have Hb3:=Lh hb3;clear hb3)
    refine bodyPost_ret (v:=.tuple #[.slice none 0 0,.bool false]) (by simp[results,Try.results50,go_sem]) rfl ?_;rw[Hno.out];refine⟨?_,_,rfl,λc h=>by cases h⟩;exact HB1.out.trans (Hb3.out.mono (by omega))
  obtain⟨i,rfl⟩:∃i:Nat,i0=(i:Int):=⟨i0.toNat,by omega⟩;obtain⟨j,rfl⟩:∃j:Nat,i1=(j:Int):=⟨i1.toNat,by omega⟩;have hi:i<c.length:=by omega
  have hj:j<d.length:=by omega
  have hii:¬((c.length:Int)<=(i:Int)):=h1;have hjm:j<(cW d).length:=by unfold cW;rw[List.length_map];exact hj
  obtain⟨y,hy⟩:∃y,(cW d)[j]=y:=⟨_,rfl⟩;have hlow1:∀(w':World),Below w.heap.size w w'->∃(ab off:Nat) (n0:Bool) (f1:Int) (ys1:List Tm) (A1:Option Addr) (c1:Nat) (f2:Int) (ys2:List Tm) (A3:Option Addr) (c3:Nat),True:=λ_ _=>⟨0,0,true,0,[],none,0,0,[],none,0,trivial⟩
  clear hlow1;obtain⟨ab,off,n0,f1,ys1,A1,c1,f2,ys2,A3,c3',rfl,hxk,hab,k0,k1,k2,k3,k4,hr1,hr2⟩:=Hc.out.lt_at hi;have hm1:dR s c d=if n0=true then none else jZ s c (cW d) ⟨n0,.mk f1 ys1,.mk f2 ys2⟩ y:=by
   rw[Hm0.out,if_neg (by omega),Int.toNat_natCast,Int.toNat_natCast,List.getElem?_eq_getElem hi,List.getElem?_eq_getElem hjm,hxk,hy]
  have Hm1:=Lh hm1;have Hxk:=Lh hxk;have Hy:=Lh hy;have HX:=Lh (show LtV w B ⟨n0,.mk f1 ys1,.mk f2 ys2⟩ (.agg #[.bool n0,.int .i64 f1,.slice A1 ys1.length c1,.int .i64 f2,.slice A3 ys2.length c3'])from⟨A1,c1,A3,c3',rfl,hr1,hr2⟩);have K0:=Lh k0;have K1:=Lh k1;have K2:=Lh k2;have K3:=Lh k3;have K4:=Lh k4;clear hm1 hxk hy hr1 hr2 k0 k1 k2 k3 k4;cases n0 with
  | true=>
   have Hno:=Lh (show dR s c d=none by rw[Hm1.out,if_pos rfl]);go_enter Try.func50,Try.ntmps50;go_upto_region 1 with fail
   have hbx1:=aD w (.cells #[.int .i64 s.rule,v1,(.slice (some ⟨a2,o2,none⟩) 2 c2),(.slice (some ⟨a3,o3,none⟩) 2 c3),v4,v5] 45);have hx1:dH w.heap.size 45 (.int .i64 s.rule) v1 (.slice (some ⟨a2,o2,none⟩) 2 c2) (.slice (some ⟨a3,o3,none⟩) 2 c3) v4 v5 (w.alloc (.cells #[.int .i64 s.rule,v1,(.slice (some ⟨a2,o2,none⟩) 2 c2),(.slice (some ⟨a3,o3,none⟩) 2 c3),v4,v5] 45)):=heap_alloc_new w _;have hz1:(w.alloc (.cells #[.int .i64 s.rule,v1,(.slice (some ⟨a2,o2,none⟩) 2 c2),(.slice (some ⟨a3,o3,none⟩) 2 c3),v4,v5] 45)).heap.size=w.heap.size+1:=by simp
   generalize w.alloc (.cells #[.int .i64 s.rule,v1,(.slice (some ⟨a2,o2,none⟩) 2 c2),(.slice (some ⟨a3,o3,none⟩) 2 c3),v4,v5] 45)=w1 at hbx1 hx1 hz1 ⊢;obtain⟨y0,y1,y2,y3,y4,y5⟩:=hx1.cells;have HX1:=Lh hx1;have HB1:=Lh hbx1;have hnm:=aN s 2 2 2 true v1 _ _ v4 v5 B w1 (HStp.out.low hbx1 hB);have Hnm:=Lh hnm;clear hx1 hbx1 hnm;have e5:=(HB1.out.cell (p:=⟨a2,o2,none⟩) (show a2<w.heap.size by omega)).trans E5.out;have e6:=(HB1.out.cell (p:=⟨a2,o2+1,none⟩) (show a2<w.heap.size by omega)).trans E6.out;have x0:=(HB1.out.cell (p:=⟨ab,off+i*5,none⟩) (show ab<w.heap.size by omega)).trans K0.out;go_wp2_with (
    go_at_call 46
    refine Hnm.out.mono ?_;rintro e w3 ⟨rfl,hb3⟩;rw[Hbn.out];have z2:=(hb3.cell (p:=⟨w.heap.size,2,none⟩) (show w.heap.size<w1.heap.size by omega)).trans y2;have z5:=(hb3.cell (p:=⟨a2,o2,none⟩) (show a2<w1.heap.size by omega)).trans e5;have z6:=(hb3.cell (p:=⟨a2,o2+1,none⟩) (show a2<w1.heap.size by omega)).trans e6;have z7:=(hb3.cell (p:=⟨ab,off+i*5,none⟩) (show ab<w1.heap.size by omega)).trans x0;have Hb3:=Lh hb3;clear hb3)
   refine bodyPost_ret (v:=.tuple #[.slice none 0 0,.bool false]) (by simp[results,Try.results50,go_sem]) rfl ?_;rw[Hno.out];refine⟨?_,_,rfl,λc h=>by cases h⟩;exact HB1.out.trans (Hb3.out.mono (by omega))
  | false=>
   go_enter Try.func50,Try.ntmps50;go_upto_region 1 with fail
   have hbx1:=aD w (.cells #[.int .i64 s.rule,v1,(.slice (some ⟨a2,o2,none⟩) 2 c2),(.slice (some ⟨a3,o3,none⟩) 2 c3),v4,v5] 45);have hx1:dH w.heap.size 45 (.int .i64 s.rule) v1 (.slice (some ⟨a2,o2,none⟩) 2 c2) (.slice (some ⟨a3,o3,none⟩) 2 c3) v4 v5 (w.alloc (.cells #[.int .i64 s.rule,v1,(.slice (some ⟨a2,o2,none⟩) 2 c2),(.slice (some ⟨a3,o3,none⟩) 2 c3),v4,v5] 45)):=heap_alloc_new w _;have hz1:(w.alloc (.cells #[.int .i64 s.rule,v1,(.slice (some ⟨a2,o2,none⟩) 2 c2),(.slice (some ⟨a3,o3,none⟩) 2 c3),v4,v5] 45)).heap.size=w.heap.size+1:=by simp
   generalize w.alloc (.cells #[.int .i64 s.rule,v1,(.slice (some ⟨a2,o2,none⟩) 2 c2),(.slice (some ⟨a3,o3,none⟩) 2 c3),v4,v5] 45)=w1 at hbx1 hx1 hz1 ⊢;obtain⟨y0,y1,y2,y3,y4,y5⟩:=hx1.cells;have HX1:=Lh hx1;have HB1:=Lh hbx1;have hnm:=aN s 2 2 2 true v1 _ _ v4 v5 B w1 (HStp.out.low hbx1 hB);have Hnm:=Lh hnm;clear hx1 hbx1 hnm;have e5:=(HB1.out.cell (p:=⟨a2,o2,none⟩) (show a2<w.heap.size by omega)).trans E5.out;have e6:=(HB1.out.cell (p:=⟨a2,o2+1,none⟩) (show a2<w.heap.size by omega)).trans E6.out;have x0:=(HB1.out.cell (p:=⟨ab,off+i*5,none⟩) (show ab<w.heap.size by omega)).trans K0.out;go_upto_region 3 with(
    go_at_call 46
    refine Hnm.out.mono ?_;rintro e w3 ⟨rfl,hb3⟩;rw[Hbn.out];have z2:=(hb3.cell (p:=⟨w.heap.size,2,none⟩) (show w.heap.size<w1.heap.size by omega)).trans y2;have z5:=(hb3.cell (p:=⟨a2,o2,none⟩) (show a2<w1.heap.size by omega)).trans e5;have z6:=(hb3.cell (p:=⟨a2,o2+1,none⟩) (show a2<w1.heap.size by omega)).trans e6;have z7:=(hb3.cell (p:=⟨ab,off+i*5,none⟩) (show ab<w1.heap.size by omega)).trans x0;have Hb3:=Lh hb3;clear hb3)
   have hlow3:Below w.heap.size w w3:=HB1.out.trans (Hb3.out.mono (by omega));have hz3:=Hb3.out.size;have hmv:=aD9 d _ B w3 (Hd.out.low hlow3 hB) (by omega) (by omega) hlow;have Hmv:=Lh hmv;have Hlow3:=Lh hlow3;clear hmv hlow3;go_upto_region 4 with(
    go_at_call 72
    refine Hmv.out.mono ?_;rintro e w4 ⟨vm,rfl,hown4,hb4⟩;have Hown4:=Lh hown4;have Hb4:=Lh hb4;clear hown4 hb4)
   clear z2 z5 z6 z7 x0 y0 y1 y2 y3 y4 y5 e5 e6;have hmc:(cW d).length=d.length:=by unfold cW;rw[List.length_map]
   have hrdm:=(Hown4.out.rd (by rw[List.length_map,hmc];omega)).rd';obtain⟨Am,cm,rfl,-,-,-⟩:=Rd.cl_form (xs:=cW d) hrdm;rw[hmc]at hrdm ⊢;obtain⟨mb,mo,n3,f3,ys3,A5,c5,f4,ys4,A6,c6,rfl,hyk,hmb,l0,l1,l2,l3,l4,hr3,hr4⟩:=Rd.lt_at (xs:=cW d) hrdm hjm;have hz4:=Hb4.out.size;have hlow4:Below w.heap.size w w4:=Hlow3.out.trans (Hb4.out.mono (by omega));have hstep4:=(HX1.out.low Hb3.out).low Hb4.out;have hBm:B<=w4.heap.size:=by omega
   have hlx:=HX.out.low (hlow4.mono hB);obtain⟨fa,xa,Aa,ca,ft,xt,At,ct,hsa,hst,hra,hrt,hpa⟩:=kR hlx r0;have hly:LtV w4 w4.heap.size ⟨n3,.mk f3 ys3,.mk f4 ys4⟩ (.agg #[.bool n3,.int .i64 f3,.slice A5 ys3.length c5,.int .i64 f4,.slice A6 ys4.length c6]):=⟨A5,c5,A6,c6,rfl,hr3,hr4⟩;obtain⟨fu,xu,Au,cu,fv,xv,Av,cv,hsu,hsv,hru,hrv,hpu⟩:=kR hly r1;rw[Hy.out]at hyk;subst hyk;have hx4:∀w',Below w4.heap.size w4 w'->w'.cell? ⟨w.heap.size,2,none⟩=some (.slice (some ⟨a2,o2,none⟩) 2 c2)/\w'.cell? ⟨w.heap.size,3,none⟩=some (.slice (some ⟨a3,o3,none⟩) 2 c3)/\w'.cell? ⟨w.heap.size,4,none⟩=some v4/\
    w'.cell? ⟨a2,o2,none⟩=some (.int .i64 (i:Nat))/\w'.cell? ⟨a2,o2+1,none⟩=some (.int .i64 (j:Nat))/\w'.cell? ⟨a3,o3,none⟩=some (.bool r0)/\w'.cell? ⟨a3,o3+1,none⟩=some (.bool r1):=λw' hb=>by
    have hc:=(hstep4.low hb).cells;have hl:=hlow4.trans (hb.mono (by omega));exact⟨hc.2.2.1,hc.2.2.2.1,hc.2.2.2.2.1,(hl.cell (p:=⟨a2,o2,none⟩) (show a2<w.heap.size by omega)).trans E5.out,(hl.cell (p:=⟨a2,o2+1,none⟩) (show a2<w.heap.size by omega)).trans E6.out,
     (hl.cell (p:=⟨a3,o3,none⟩) (show a3<w.heap.size by omega)).trans E7.out,(hl.cell (p:=⟨a3,o3+1,none⟩) (show a3<w.heap.size by omega)).trans E8.out⟩
   have hxi:∀w',Below w4.heap.size w4 w'->w'.cell? ⟨ab,off+i*5,none⟩=some (.bool false)/\w'.cell? ⟨ab,off+i*5+1,none⟩=some (.int .i64 f1)/\w'.cell? ⟨ab,off+i*5+2,none⟩=some (.slice A1 ys1.length c1)/\w'.cell? ⟨ab,off+i*5+3,none⟩=some (.int .i64 f2)/\w'.cell? ⟨ab,off+i*5+4,none⟩=some (.slice A3 ys2.length c3'):=λw' hb=>by
    have hl:=hlow4.trans (hb.mono (by omega));have hab':ab<w.heap.size:=(by omega);exact⟨(hl.cell (p:=⟨ab,off+i*5,none⟩) hab').trans K0.out,(hl.cell (p:=⟨ab,off+i*5+1,none⟩) hab').trans K1.out,(hl.cell (p:=⟨ab,off+i*5+2,none⟩) hab').trans K2.out,(hl.cell (p:=⟨ab,off+i*5+3,none⟩) hab').trans K3.out,(hl.cell (p:=⟨ab,off+i*5+4,none⟩) hab').trans K4.out⟩
   have hxj:∀w',Below w4.heap.size w4 w'->w'.cell? ⟨mb,mo+j*5,none⟩=some (.bool n3)/\w'.cell? ⟨mb,mo+j*5+1,none⟩=some (.int .i64 f3)/\w'.cell? ⟨mb,mo+j*5+2,none⟩=some (.slice A5 ys3.length c5)/\w'.cell? ⟨mb,mo+j*5+3,none⟩=some (.int .i64 f4)/\w'.cell? ⟨mb,mo+j*5+4,none⟩=some (.slice A6 ys4.length c6):=λw' hb=>
    ⟨(hb.cell (p:=⟨mb,mo+j*5,none⟩) hmb).trans l0,(hb.cell (p:=⟨mb,mo+j*5+1,none⟩) hmb).trans l1,(hb.cell (p:=⟨mb,mo+j*5+2,none⟩) hmb).trans l2,(hb.cell (p:=⟨mb,mo+j*5+3,none⟩) hmb).trans l3,(hb.cell (p:=⟨mb,mo+j*5+4,none⟩) hmb).trans l4⟩
   have hq4:∀w',Below w4.heap.size w4 w'->w'.cell? ⟨w.heap.size,2,none⟩=some (.slice (some ⟨a2,o2,none⟩) 2 c2)/\w'.cell? ⟨w.heap.size,3,none⟩=some (.slice (some ⟨a3,o3,none⟩) 2 c3)/\w'.cell? ⟨a2,o2,none⟩=some (.int .i64 (i:Nat))/\w'.cell? ⟨a3,o3,none⟩=some (.bool r0)/\
    w'.cell? ⟨ab,off+i*5,none⟩=some (.bool false)/\w'.cell? ⟨ab,off+i*5+1,none⟩=some (.int .i64 f1)/\w'.cell? ⟨ab,off+i*5+2,none⟩=some (.slice A1 ys1.length c1)/\w'.cell? ⟨ab,off+i*5+3,none⟩=some (.int .i64 f2)/\w'.cell? ⟨ab,off+i*5+4,none⟩=some (.slice A3 ys2.length c3'):=λw' hb=>
    ⟨(hx4 w' hb).1,(hx4 w' hb).2.1,(hx4 w' hb).2.2.2.1,(hx4 w' hb).2.2.2.2.2.1,hxi w' hb⟩
   have hq5:∀w',Below w4.heap.size w4 w'->w'.cell? ⟨w.heap.size,2,none⟩=some (.slice (some ⟨a2,o2,none⟩) 2 c2)/\w'.cell? ⟨w.heap.size,3,none⟩=some (.slice (some ⟨a3,o3,none⟩) 2 c3)/\w'.cell? ⟨a2,o2+1,none⟩=some (.int .i64 (j:Nat))/\w'.cell? ⟨a3,o3+1,none⟩=some (.bool r1)/\
    w'.cell? ⟨mb,mo+j*5,none⟩=some (.bool n3)/\w'.cell? ⟨mb,mo+j*5+1,none⟩=some (.int .i64 f3)/\w'.cell? ⟨mb,mo+j*5+2,none⟩=some (.slice A5 ys3.length c5)/\w'.cell? ⟨mb,mo+j*5+3,none⟩=some (.int .i64 f4)/\w'.cell? ⟨mb,mo+j*5+4,none⟩=some (.slice A6 ys4.length c6):=λw' hb=>
    ⟨(hx4 w' hb).1,(hx4 w' hb).2.1,(hx4 w' hb).2.2.2.2.1,(hx4 w' hb).2.2.2.2.2.2,hxj w' hb⟩
   have hm2:dR s c d=jZ s c (cW d) ⟨false,.mk f1 ys1,.mk f2 ys2⟩ ⟨n3,.mk f3 ys3,.mk f4 ys4⟩:=by rw[Hm1.out];simp
   have Hm2:=Lh hm2;have Hx4:=Lh hx4;have Hq4:=Lh hq4;have Hq5:=Lh hq5;have Hpa:=Lh hpa;have Hpu:=Lh hpu;have Hra:=Lh (hra.more hBm);have Hrt:=Lh (hrt.more hBm);have Hru:=Lh hru;have Hrv:=Lh hrv;have Hlow4:=Lh hlow4;have Hrdm:=Lh hrdm;have hjj:¬((d.length:Int)<=(j:Int)):=by omega
   clear hx4 hxi hxj hq4 hq5 hpa hpu hra hrt hru hrv hlow4 hrdm hstep4 hlx hly l0 l1 l2 l3 l4 hr3 hr4 hm2 Hmv Hown4 Hnm;refine dC (sp:=λk=>k==15 || k==16) (vals:=λx k=>match k with | 0=>(.slice (some ⟨ab,off,none⟩) c.length cc:Value) | 1=>(.pointer (some ⟨w.heap.size,2,none⟩):Value) | 2=>(.slice (some ⟨a2,o2,none⟩) 2 c2:Value) | 3=>(.pointer (some ⟨a2,o2+0,none⟩):Value) | 4=>(.int .i64 (i:Nat):Value) | 5=>(.pointer (some ⟨ab,off+i*5,none⟩):Value) | 6=>(.agg #[.bool false,.int .i64 f1,.slice A1 ys1.length c1,.int .i64 f2,.slice A3 ys2.length c3']:Value) | 7=>(.pointer (some ⟨w.heap.size,3,none⟩):Value) | 8=>(.slice (some ⟨a3,o3,none⟩) 2 c3:Value) | 9=>(.pointer (some ⟨a3,o3+0,none⟩):Value) | 10=>(.bool r0:Value) | 11=>(.tuple #[.agg #[.int .i64 fa,.slice Aa xa.length ca],.agg #[.int .i64 ft,.slice At xt.length ct]]:Value) | 12=>(.tuple #[.agg #[.int .i64 fa,.slice Aa xa.length ca],.agg #[.int .i64 ft,.slice At xt.length ct]]:Value) | 13=>(.agg #[.int .i64 fa,.slice Aa xa.length ca]:Value) | 14=>(.agg #[.int .i64 ft,.slice At xt.length ct]:Value) | 15=>(x 8:Value) | 16=>(x 9:Value) | 17=>(undef:Value) | 18=>(undef:Value) | _=>undef) (D:=λk=>match k with | 0=>some 66 | 1=>some 67 | 2=>some 68 | 3=>some 69 | 4=>some 70 | 5=>some 71 | 6=>some 72 | 7=>some 73 | 8=>some 74 | 9=>some 75 | 10=>some 76 | 11=>some 77 | 12=>some 65 | 13=>some 78 | 14=>some 79 | 15=>some 8 | 16=>some 9 | _=>none) (J:=λaA x w'=>cP w4 87 (.int .i64 0) (.slice none 0 0) [⟨aA.getD 15 false,aA.getD 17 false,x 8,.int .i64 fa,.slice Aa xa.length ca⟩,⟨aA.getD 16 false,aA.getD 18 false,x 9,.int .i64 ft,.slice At xt.length ct⟩] w') (by kernel_rfl) ?hs ?hd ?hsp ?h0 ?step ?fin
   case hs=>
    intro i o ho;have hi:i<19:=(Array.getElem?_eq_some_iff.1 ho).1;rcases sE hi with rfl | rfl | rfl | rfl | rfl | rfl | rfl | rfl | rfl | rfl | rfl | rfl | rfl | rfl | rfl | rfl | rfl | rfl | rfl
    all_goals obtain rfl:=Option.some.inj (show some _=some o from ho)
    all_goals exact⟨by simp[Region.binds],rfl,λs hs=>by first | (cases hs;done) | (obtain rfl:=Option.some.inj hs;show _<182;decide)⟩
   case hd=>
    intro k k' s hk hk' h h';have hk:k<19:=hk;have hk':k'<19:=hk';refine dL (D:=[some 66,some 67,some 68,some 69,some 70,some 71,some 72,some 73,some 74,some 75,some 76,some 77,some 65,some 78,some 79,some 8,some 9,none,none]) (by decide) (k:=k) (k':=k') (s:=s) ?_ ?_
    . rcases sE hk with rfl | rfl | rfl | rfl | rfl | rfl | rfl | rfl | rfl | rfl | rfl | rfl | rfl | rfl | rfl | rfl | rfl | rfl | rfl
      all_goals exact congrArg some h
    rcases sE hk' with rfl | rfl | rfl | rfl | rfl | rfl | rfl | rfl | rfl | rfl | rfl | rfl | rfl | rfl | rfl | rfl | rfl | rfl | rfl
    all_goals exact congrArg some h'
   case hsp=>
    intro k s hk hks x;have hk:k<19:=hk;rcases sE hk with rfl | rfl | rfl | rfl | rfl | rfl | rfl | rfl | rfl | rfl | rfl | rfl | rfl | rfl | rfl | rfl | rfl | rfl | rfl
    all_goals first | rfl | (obtain rfl:=Option.some.inj hks;rfl) | cases hks
   case h0=>
    exact cP.start ((Below.refl _ _).drew) (by simp)
   case step=>
    intro aA a w' i o hz hts hI hJ ho hl hdep;have hz:aA.size=19:=hz;have hi:i<19:=(Array.getElem?_eq_some_iff.1 ho).1;try dsimp only at hJ
    obtain⟨q0,q1,q2,q3,q4,q5,q6,q7,q8⟩:=Hq4.out w' hJ.1;rcases sE hi with rfl | rfl | rfl | rfl | rfl | rfl | rfl | rfl | rfl | rfl | rfl | rfl | rfl | rfl | rfl | rfl | rfl | rfl | rfl
    all_goals obtain rfl:=Option.some.inj (show some _=some o from ho)
    . have e1:(a.tmps[1]?).getD undef=(.slice (some ⟨ab,off,none⟩) c.length cc:Value):=gD (hI.fix 1 (by decide));refine aF ho rfl (aE (v:=.slice (some ⟨ab,off,none⟩) c.length cc) (w':=w') (by simp[execOp,e1,go_sem]) ⟨_,rfl,Or.inr rfl,?_⟩);have hK:=hJ;rw[<-aB (l:=aA) (i:=0) (k:=15) (by decide)]at hK;rw[<-aB (l:=aA) (i:=0) (k:=16) (by decide)]at hK;rw[<-aB (l:=aA) (i:=0) (k:=17) (by decide)]at hK;rw[<-aB (l:=aA) (i:=0) (k:=18) (by decide)]at hK;rw[<-aC (a:=a) (d:=66) (s:=8) (v:=.slice (some ⟨ab,off,none⟩) c.length cc) (by decide)]at hK;rw[<-aC (a:=a) (d:=66) (s:=9) (v:=.slice (some ⟨ab,off,none⟩) c.length cc) (by decide)]at hK;exact hK
    . have e3:(a.tmps[3]?).getD undef=(.pointer (some ⟨w.heap.size,0,none⟩):Value):=gD (hI.fix 3 (by decide));refine aF ho rfl (aE (v:=.pointer (some ⟨w.heap.size,2,none⟩)) (w':=w') (by simp[execOp,e3,go_sem]) ⟨_,rfl,Or.inr rfl,?_⟩);have hK:=hJ;rw[<-aB (l:=aA) (i:=1) (k:=15) (by decide)]at hK;rw[<-aB (l:=aA) (i:=1) (k:=16) (by decide)]at hK;rw[<-aB (l:=aA) (i:=1) (k:=17) (by decide)]at hK;rw[<-aB (l:=aA) (i:=1) (k:=18) (by decide)]at hK;rw[<-aC (a:=a) (d:=67) (s:=8) (v:=.pointer (some ⟨w.heap.size,2,none⟩)) (by decide)]at hK;rw[<-aC (a:=a) (d:=67) (s:=9) (v:=.pointer (some ⟨w.heap.size,2,none⟩)) (by decide)]at hK;exact hK
    . have e67:(a.tmps[67]?).getD undef=(.pointer (some ⟨w.heap.size,2,none⟩):Value):=gD ((hI.done 1 67 (by simp) rfl (hdep ⟨1,.data⟩ (by simp) rfl)).resolve_left (by decide));refine aF ho rfl (aE (v:=.slice (some ⟨a2,o2,none⟩) 2 c2) (w':=w') (by simp[execOp,e67,q0,go_sem]) ⟨_,rfl,Or.inr rfl,?_⟩);have hK:=hJ;rw[<-aB (l:=aA) (i:=2) (k:=15) (by decide)]at hK;rw[<-aB (l:=aA) (i:=2) (k:=16) (by decide)]at hK;rw[<-aB (l:=aA) (i:=2) (k:=17) (by decide)]at hK;rw[<-aB (l:=aA) (i:=2) (k:=18) (by decide)]at hK;rw[<-aC (a:=a) (d:=68) (s:=8) (v:=.slice (some ⟨a2,o2,none⟩) 2 c2) (by decide)]at hK;rw[<-aC (a:=a) (d:=68) (s:=9) (v:=.slice (some ⟨a2,o2,none⟩) 2 c2) (by decide)]at hK;exact hK
    . have e68:(a.tmps[68]?).getD undef=(.slice (some ⟨a2,o2,none⟩) 2 c2:Value):=gD ((hI.done 2 68 (by simp) rfl (hdep ⟨2,.data⟩ (by simp) rfl)).resolve_left (by decide));refine aF ho rfl (aE (v:=.pointer (some ⟨a2,o2+0,none⟩)) (w':=w') (by simp[execOp,e68,go_sem]) ⟨_,rfl,Or.inr rfl,?_⟩);have hK:=hJ;rw[<-aB (l:=aA) (i:=3) (k:=15) (by decide)]at hK;rw[<-aB (l:=aA) (i:=3) (k:=16) (by decide)]at hK;rw[<-aB (l:=aA) (i:=3) (k:=17) (by decide)]at hK;rw[<-aB (l:=aA) (i:=3) (k:=18) (by decide)]at hK;rw[<-aC (a:=a) (d:=69) (s:=8) (v:=.pointer (some ⟨a2,o2+0,none⟩)) (by decide)]at hK;rw[<-aC (a:=a) (d:=69) (s:=9) (v:=.pointer (some ⟨a2,o2+0,none⟩)) (by decide)]at hK;exact hK
    . have e69:(a.tmps[69]?).getD undef=(.pointer (some ⟨a2,o2+0,none⟩):Value):=gD ((hI.done 3 69 (by simp) rfl (hdep ⟨3,.data⟩ (by simp) rfl)).resolve_left (by decide));refine aF ho rfl (aE (v:=.int .i64 (i:Nat)) (w':=w') (by simp[execOp,e69,q2,go_sem]) ⟨_,rfl,Or.inr rfl,?_⟩);have hK:=hJ;rw[<-aB (l:=aA) (i:=4) (k:=15) (by decide)]at hK;rw[<-aB (l:=aA) (i:=4) (k:=16) (by decide)]at hK;rw[<-aB (l:=aA) (i:=4) (k:=17) (by decide)]at hK;rw[<-aB (l:=aA) (i:=4) (k:=18) (by decide)]at hK;rw[<-aC (a:=a) (d:=70) (s:=8) (v:=.int .i64 (i:Nat)) (by decide)]at hK;rw[<-aC (a:=a) (d:=70) (s:=9) (v:=.int .i64 (i:Nat)) (by decide)]at hK;exact hK
    . have e66:(a.tmps[66]?).getD undef=(.slice (some ⟨ab,off,none⟩) c.length cc:Value):=gD ((hI.done 0 66 (by simp) rfl (hdep ⟨0,.data⟩ (by simp) rfl)).resolve_left (by decide));have e70:(a.tmps[70]?).getD undef=(.int .i64 (i:Nat):Value):=gD ((hI.done 4 70 (by simp) rfl (hdep ⟨4,.data⟩ (by simp) rfl)).resolve_left (by decide));refine aF ho rfl (aE (v:=.pointer (some ⟨ab,off+i*5,none⟩)) (w':=w') (by simp[execOp,e66,e70,hi,hii,go_sem]) ⟨_,rfl,Or.inr rfl,?_⟩);have hK:=hJ;rw[<-aB (l:=aA) (i:=5) (k:=15) (by decide)]at hK;rw[<-aB (l:=aA) (i:=5) (k:=16) (by decide)]at hK;rw[<-aB (l:=aA) (i:=5) (k:=17) (by decide)]at hK;rw[<-aB (l:=aA) (i:=5) (k:=18) (by decide)]at hK;rw[<-aC (a:=a) (d:=71) (s:=8) (v:=.pointer (some ⟨ab,off+i*5,none⟩)) (by decide)]at hK;rw[<-aC (a:=a) (d:=71) (s:=9) (v:=.pointer (some ⟨ab,off+i*5,none⟩)) (by decide)]at hK;exact hK
    . have e71:(a.tmps[71]?).getD undef=(.pointer (some ⟨ab,off+i*5,none⟩):Value):=gD ((hI.done 5 71 (by simp) rfl (hdep ⟨5,.data⟩ (by simp) rfl)).resolve_left (by decide));refine aF ho rfl (aE (v:=.agg #[.bool false,.int .i64 f1,.slice A1 ys1.length c1,.int .i64 f2,.slice A3 ys2.length c3']) (w':=w') (by simp[execOp,e71,q4,q5,q6,q7,q8,go_sem]) ⟨_,rfl,Or.inr rfl,?_⟩);have hK:=hJ;rw[<-aB (l:=aA) (i:=6) (k:=15) (by decide)]at hK;rw[<-aB (l:=aA) (i:=6) (k:=16) (by decide)]at hK;rw[<-aB (l:=aA) (i:=6) (k:=17) (by decide)]at hK;rw[<-aB (l:=aA) (i:=6) (k:=18) (by decide)]at hK;rw[<-aC (a:=a) (d:=72) (s:=8) (v:=.agg #[.bool false,.int .i64 f1,.slice A1 ys1.length c1,.int .i64 f2,.slice A3 ys2.length c3']) (by decide)]at hK;rw[<-aC (a:=a) (d:=72) (s:=9) (v:=.agg #[.bool false,.int .i64 f1,.slice A1 ys1.length c1,.int .i64 f2,.slice A3 ys2.length c3']) (by decide)]at hK;exact hK
    . have e3:(a.tmps[3]?).getD undef=(.pointer (some ⟨w.heap.size,0,none⟩):Value):=gD (hI.fix 3 (by decide));refine aF ho rfl (aE (v:=.pointer (some ⟨w.heap.size,3,none⟩)) (w':=w') (by simp[execOp,e3,go_sem]) ⟨_,rfl,Or.inr rfl,?_⟩);have hK:=hJ;rw[<-aB (l:=aA) (i:=7) (k:=15) (by decide)]at hK;rw[<-aB (l:=aA) (i:=7) (k:=16) (by decide)]at hK;rw[<-aB (l:=aA) (i:=7) (k:=17) (by decide)]at hK;rw[<-aB (l:=aA) (i:=7) (k:=18) (by decide)]at hK;rw[<-aC (a:=a) (d:=73) (s:=8) (v:=.pointer (some ⟨w.heap.size,3,none⟩)) (by decide)]at hK;rw[<-aC (a:=a) (d:=73) (s:=9) (v:=.pointer (some ⟨w.heap.size,3,none⟩)) (by decide)]at hK;exact hK
    . have e73:(a.tmps[73]?).getD undef=(.pointer (some ⟨w.heap.size,3,none⟩):Value):=gD ((hI.done 7 73 (by simp) rfl (hdep ⟨7,.data⟩ (by simp) rfl)).resolve_left (by decide));refine aF ho rfl (aE (v:=.slice (some ⟨a3,o3,none⟩) 2 c3) (w':=w') (by simp[execOp,e73,q1,go_sem]) ⟨_,rfl,Or.inr rfl,?_⟩);have hK:=hJ;rw[<-aB (l:=aA) (i:=8) (k:=15) (by decide)]at hK;rw[<-aB (l:=aA) (i:=8) (k:=16) (by decide)]at hK;rw[<-aB (l:=aA) (i:=8) (k:=17) (by decide)]at hK;rw[<-aB (l:=aA) (i:=8) (k:=18) (by decide)]at hK;rw[<-aC (a:=a) (d:=74) (s:=8) (v:=.slice (some ⟨a3,o3,none⟩) 2 c3) (by decide)]at hK;rw[<-aC (a:=a) (d:=74) (s:=9) (v:=.slice (some ⟨a3,o3,none⟩) 2 c3) (by decide)]at hK;exact hK
    . have e74:(a.tmps[74]?).getD undef=(.slice (some ⟨a3,o3,none⟩) 2 c3:Value):=gD ((hI.done 8 74 (by simp) rfl (hdep ⟨8,.data⟩ (by simp) rfl)).resolve_left (by decide));refine aF ho rfl (aE (v:=.pointer (some ⟨a3,o3+0,none⟩)) (w':=w') (by simp[execOp,e74,go_sem]) ⟨_,rfl,Or.inr rfl,?_⟩);have hK:=hJ;rw[<-aB (l:=aA) (i:=9) (k:=15) (by decide)]at hK;rw[<-aB (l:=aA) (i:=9) (k:=16) (by decide)]at hK;rw[<-aB (l:=aA) (i:=9) (k:=17) (by decide)]at hK;rw[<-aB (l:=aA) (i:=9) (k:=18) (by decide)]at hK;rw[<-aC (a:=a) (d:=75) (s:=8) (v:=.pointer (some ⟨a3,o3+0,none⟩)) (by decide)]at hK;rw[<-aC (a:=a) (d:=75) (s:=9) (v:=.pointer (some ⟨a3,o3+0,none⟩)) (by decide)]at hK;exact hK
    . have e75:(a.tmps[75]?).getD undef=(.pointer (some ⟨a3,o3+0,none⟩):Value):=gD ((hI.done 9 75 (by simp) rfl (hdep ⟨9,.data⟩ (by simp) rfl)).resolve_left (by decide));refine aF ho rfl (aE (v:=.bool r0) (w':=w') (by simp[execOp,e75,q3,go_sem]) ⟨_,rfl,Or.inr rfl,?_⟩);have hK:=hJ;rw[<-aB (l:=aA) (i:=10) (k:=15) (by decide)]at hK;rw[<-aB (l:=aA) (i:=10) (k:=16) (by decide)]at hK;rw[<-aB (l:=aA) (i:=10) (k:=17) (by decide)]at hK;rw[<-aB (l:=aA) (i:=10) (k:=18) (by decide)]at hK;rw[<-aC (a:=a) (d:=76) (s:=8) (v:=.bool r0) (by decide)]at hK;rw[<-aC (a:=a) (d:=76) (s:=9) (v:=.bool r0) (by decide)]at hK;exact hK
    . have e72:(a.tmps[72]?).getD undef=(.agg #[.bool false,.int .i64 f1,.slice A1 ys1.length c1,.int .i64 f2,.slice A3 ys2.length c3']:Value):=gD ((hI.done 6 72 (by simp) rfl (hdep ⟨6,.data⟩ (by simp) rfl)).resolve_left (by decide));have e76:(a.tmps[76]?).getD undef=(.bool r0:Value):=gD ((hI.done 10 76 (by simp) rfl (hdep ⟨10,.data⟩ (by simp) rfl)).resolve_left (by decide));refine aF ho rfl (aG (by simp[execOp,resolve,invoke,e72,e76,go_sem]) (Hpa.out w') ?_);rintro e w6 ⟨rfl,hb6⟩;refine⟨_,rfl,_,rfl,Or.inr rfl,?_⟩;have hK:=hJ.step hb6;rw[<-aB (l:=aA) (i:=11) (k:=15) (by decide)]at hK;rw[<-aB (l:=aA) (i:=11) (k:=16) (by decide)]at hK;rw[<-aB (l:=aA) (i:=11) (k:=17) (by decide)]at hK;rw[<-aB (l:=aA) (i:=11) (k:=18) (by decide)]at hK;rw[<-aC (a:=a) (d:=77) (s:=8) (v:=.tuple #[.agg #[.int .i64 fa,.slice Aa xa.length ca],.agg #[.int .i64 ft,.slice At xt.length ct]]) (by decide)]at hK;rw[<-aC (a:=a) (d:=77) (s:=9) (v:=.tuple #[.agg #[.int .i64 fa,.slice Aa xa.length ca],.agg #[.int .i64 ft,.slice At xt.length ct]]) (by decide)]at hK;exact hK
    . have e77:(a.tmps[77]?).getD undef=(.tuple #[.agg #[.int .i64 fa,.slice Aa xa.length ca],.agg #[.int .i64 ft,.slice At xt.length ct]]:Value):=gD ((hI.done 11 77 (by simp) rfl (hdep ⟨11,.data⟩ (by simp) rfl)).resolve_left (by decide));refine aF ho rfl (aE (v:=.tuple #[.agg #[.int .i64 fa,.slice Aa xa.length ca],.agg #[.int .i64 ft,.slice At xt.length ct]]) (w':=w') (by simp[execOp,e77,go_sem]) ⟨_,rfl,Or.inr rfl,?_⟩);have hK:=hJ;rw[<-aB (l:=aA) (i:=12) (k:=15) (by decide)]at hK;rw[<-aB (l:=aA) (i:=12) (k:=16) (by decide)]at hK;rw[<-aB (l:=aA) (i:=12) (k:=17) (by decide)]at hK;rw[<-aB (l:=aA) (i:=12) (k:=18) (by decide)]at hK;rw[<-aC (a:=a) (d:=65) (s:=8) (v:=.tuple #[.agg #[.int .i64 fa,.slice Aa xa.length ca],.agg #[.int .i64 ft,.slice At xt.length ct]]) (by decide)]at hK;rw[<-aC (a:=a) (d:=65) (s:=9) (v:=.tuple #[.agg #[.int .i64 fa,.slice Aa xa.length ca],.agg #[.int .i64 ft,.slice At xt.length ct]]) (by decide)]at hK;exact hK
    . have e65:(a.tmps[65]?).getD undef=(.tuple #[.agg #[.int .i64 fa,.slice Aa xa.length ca],.agg #[.int .i64 ft,.slice At xt.length ct]]:Value):=gD ((hI.done 12 65 (by simp) rfl (hdep ⟨12,.data⟩ (by simp) rfl)).resolve_left (by decide));refine aF ho rfl (aE (v:=.agg #[.int .i64 fa,.slice Aa xa.length ca]) (w':=w') (by simp[execOp,e65,go_sem]) ⟨_,rfl,Or.inr rfl,?_⟩);have hK:=hJ;rw[<-aB (l:=aA) (i:=13) (k:=15) (by decide)]at hK;rw[<-aB (l:=aA) (i:=13) (k:=16) (by decide)]at hK;rw[<-aB (l:=aA) (i:=13) (k:=17) (by decide)]at hK;rw[<-aB (l:=aA) (i:=13) (k:=18) (by decide)]at hK;rw[<-aC (a:=a) (d:=78) (s:=8) (v:=.agg #[.int .i64 fa,.slice Aa xa.length ca]) (by decide)]at hK;rw[<-aC (a:=a) (d:=78) (s:=9) (v:=.agg #[.int .i64 fa,.slice Aa xa.length ca]) (by decide)]at hK;exact hK
    . have e65:(a.tmps[65]?).getD undef=(.tuple #[.agg #[.int .i64 fa,.slice Aa xa.length ca],.agg #[.int .i64 ft,.slice At xt.length ct]]:Value):=gD ((hI.done 12 65 (by simp) rfl (hdep ⟨12,.data⟩ (by simp) rfl)).resolve_left (by decide));refine aF ho rfl (aE (v:=.agg #[.int .i64 ft,.slice At xt.length ct]) (w':=w') (by simp[execOp,e65,go_sem]) ⟨_,rfl,Or.inr rfl,?_⟩);have hK:=hJ;rw[<-aB (l:=aA) (i:=14) (k:=15) (by decide)]at hK;rw[<-aB (l:=aA) (i:=14) (k:=16) (by decide)]at hK;rw[<-aB (l:=aA) (i:=14) (k:=17) (by decide)]at hK;rw[<-aB (l:=aA) (i:=14) (k:=18) (by decide)]at hK;rw[<-aC (a:=a) (d:=79) (s:=8) (v:=.agg #[.int .i64 ft,.slice At xt.length ct]) (by decide)]at hK;rw[<-aC (a:=a) (d:=79) (s:=9) (v:=.agg #[.int .i64 ft,.slice At xt.length ct]) (by decide)]at hK;exact hK
    . refine aF ho rfl (aE (v:=.pointer (some ⟨w'.heap.size,0,none⟩)) (w':=w'.alloc (.cells #[.int .i64 0,.slice none 0 0] 87)) (by simp[execOp,go_sem]) ⟨_,rfl,Or.inl (by decide),?_⟩);have hK:=hJ.lay 0 (by simp) hl;show cP w4 87 (.int .i64 0) (.slice none 0 0) [⟨(aA.setIfInBounds 15 true).getD 15 false,(aA.setIfInBounds 15 true).getD 17 false,(a.put (some 8) (.pointer (some ⟨w'.heap.size,0,none⟩))).tmps.getD 8 undef,.int .i64 fa,.slice Aa xa.length ca⟩,⟨(aA.setIfInBounds 15 true).getD 16 false,(aA.setIfInBounds 15 true).getD 18 false,(a.put (some 8) (.pointer (some ⟨w'.heap.size,0,none⟩))).tmps.getD 9 undef,.int .i64 ft,.slice At xt.length ct⟩] _
      rw[aJ (by omega)];rw[aB (l:=aA) (i:=15) (k:=16) (by decide)];rw[aB (l:=aA) (i:=15) (k:=17) (by decide)];rw[aB (l:=aA) (i:=15) (k:=18) (by decide)];rw[aS (a:=a) (s:=8) (by rw[hts];show 8<182;decide)];rw[aC (a:=a) (d:=8) (s:=9) (by decide)];exact hK
    . refine aF ho rfl (aE (v:=.pointer (some ⟨w'.heap.size,0,none⟩)) (w':=w'.alloc (.cells #[.int .i64 0,.slice none 0 0] 87)) (by simp[execOp,go_sem]) ⟨_,rfl,Or.inl (by decide),?_⟩);have hK:=hJ.lay 1 (by simp) hl;show cP w4 87 (.int .i64 0) (.slice none 0 0) [⟨(aA.setIfInBounds 16 true).getD 15 false,(aA.setIfInBounds 16 true).getD 17 false,(a.put (some 9) (.pointer (some ⟨w'.heap.size,0,none⟩))).tmps.getD 8 undef,.int .i64 fa,.slice Aa xa.length ca⟩,⟨(aA.setIfInBounds 16 true).getD 16 false,(aA.setIfInBounds 16 true).getD 18 false,(a.put (some 9) (.pointer (some ⟨w'.heap.size,0,none⟩))).tmps.getD 9 undef,.int .i64 ft,.slice At xt.length ct⟩] _
      rw[aB (l:=aA) (i:=16) (k:=15) (by decide)];rw[aJ (by omega)];rw[aB (l:=aA) (i:=16) (k:=17) (by decide)];rw[aB (l:=aA) (i:=16) (k:=18) (by decide)];rw[aC (a:=a) (d:=9) (s:=8) (by decide)];rw[aS (a:=a) (s:=9) (by rw[hts];show 9<182;decide)];exact hK
    . have l8:=hdep ⟨15,.data⟩ (by simp) rfl;have e78:(a.tmps[78]?).getD undef=(.agg #[.int .i64 fa,.slice Aa xa.length ca]:Value):=gD ((hI.done 13 78 (by simp) rfl (hdep ⟨13,.data⟩ (by simp) rfl)).resolve_left (by decide));have hla:aA.getD 15 false=true:=hdep ⟨15,.data⟩ (by simp) rfl;obtain⟨b,hx,hbx,hK⟩:=hJ.fill 0 (by simp) hla hl;obtain⟨m0,m1,m2⟩:=hbx.cells;have ebox:(a.tmps[8]?).getD undef=.pointer (some ⟨b,0,none⟩):=(by simpa using hx);refine aF ho rfl (bF (w':=(w'.setCell ⟨b,0,none⟩ (.int .i64 fa)).setCell ⟨b,1,none⟩ (.slice Aa xa.length ca)) (by simp[execOp,ebox,e78,m0,m1,m2,go_sem]) ⟨_,rfl,Or.inr rfl,?_⟩);show cP w4 87 (.int .i64 0) (.slice none 0 0) [⟨(aA.setIfInBounds 17 true).getD 15 false,(aA.setIfInBounds 17 true).getD 17 false,a.tmps.getD 8 undef,.int .i64 fa,.slice Aa xa.length ca⟩,⟨(aA.setIfInBounds 17 true).getD 16 false,(aA.setIfInBounds 17 true).getD 18 false,a.tmps.getD 9 undef,.int .i64 ft,.slice At xt.length ct⟩] _
      rw[aB (l:=aA) (i:=17) (k:=15) (by decide)];rw[aB (l:=aA) (i:=17) (k:=16) (by decide)];rw[aJ (by omega)];rw[aB (l:=aA) (i:=17) (k:=18) (by decide)];rw[hla];exact hK
    have l9:=hdep ⟨16,.data⟩ (by simp) rfl;have e79:(a.tmps[79]?).getD undef=(.agg #[.int .i64 ft,.slice At xt.length ct]:Value):=gD ((hI.done 14 79 (by simp) rfl (hdep ⟨14,.data⟩ (by simp) rfl)).resolve_left (by decide));have hla:aA.getD 16 false=true:=hdep ⟨16,.data⟩ (by simp) rfl;obtain⟨b,hx,hbx,hK⟩:=hJ.fill 1 (by simp) hla hl;obtain⟨m0,m1,m2⟩:=hbx.cells;have ebox:(a.tmps[9]?).getD undef=.pointer (some ⟨b,0,none⟩):=(by simpa using hx);refine aF ho rfl (bF (w':=(w'.setCell ⟨b,0,none⟩ (.int .i64 ft)).setCell ⟨b,1,none⟩ (.slice At xt.length ct)) (by simp[execOp,ebox,e79,m0,m1,m2,go_sem]) ⟨_,rfl,Or.inr rfl,?_⟩);show cP w4 87 (.int .i64 0) (.slice none 0 0) [⟨(aA.setIfInBounds 18 true).getD 15 false,(aA.setIfInBounds 18 true).getD 17 false,a.tmps.getD 8 undef,.int .i64 fa,.slice Aa xa.length ca⟩,⟨(aA.setIfInBounds 18 true).getD 16 false,(aA.setIfInBounds 18 true).getD 18 false,a.tmps.getD 9 undef,.int .i64 ft,.slice At xt.length ct⟩] _
    rw[aB (l:=aA) (i:=18) (k:=15) (by decide)];rw[aB (l:=aA) (i:=18) (k:=16) (by decide)];rw[aB (l:=aA) (i:=18) (k:=17) (by decide)];rw[aJ (by omega)];rw[hla];exact hK
   case fin=>
    intro aA x wz hz hall hJ;have hz:aA.size=19:=hz;have hall:∀i,i<19->aA.getD i false=true:=hall;simp only[List.size_toArray,List.length_cons,List.length_nil,Nat.reduceAdd,bI];simp
    rw[hall 15 (by omega),hall 16 (by omega),hall 17 (by omega),hall 18 (by omega)]at hJ;obtain⟨hbz,b1,b2,e1,e2,p1,p2,q1,q2,hne⟩:=hJ.out2;rw[e1,e2];obtain⟨w5,rfl⟩:∃w5:World,w5=wz:=⟨_,rfl⟩;obtain⟨ba,rfl⟩:∃b,b=b1:=⟨_,rfl⟩;obtain⟨bt,rfl⟩:∃b,b=b2:=⟨_,rfl⟩;have hz5:=hbz.size;have Hb5:=Lh hbz;have Ba:=Lh q1;have Bt:=Lh q2;have Hq5':=Lh (λw' (hb:Below w5.heap.size w5 w')=>Hq5.out w' (hbz.trans (hb.mono hz5)));clear hJ hall hz hbz q1 q2 e1 e2 hne;go_upto_region 5 with fail
    refine dC (sp:=λk=>k==15 || k==16) (vals:=λx k=>match k with | 0=>(.slice (some ⟨mb,mo,none⟩) d.length cm:Value) | 1=>(.pointer (some ⟨w.heap.size,2,none⟩):Value) | 2=>(.slice (some ⟨a2,o2,none⟩) 2 c2:Value) | 3=>(.pointer (some ⟨a2,o2+1,none⟩):Value) | 4=>(.int .i64 (j:Nat):Value) | 5=>(.pointer (some ⟨mb,mo+j*5,none⟩):Value) | 6=>(.agg #[.bool n3,.int .i64 f3,.slice A5 ys3.length c5,.int .i64 f4,.slice A6 ys4.length c6]:Value) | 7=>(.pointer (some ⟨w.heap.size,3,none⟩):Value) | 8=>(.slice (some ⟨a3,o3,none⟩) 2 c3:Value) | 9=>(.pointer (some ⟨a3,o3+1,none⟩):Value) | 10=>(.bool r1:Value) | 11=>(.tuple #[.agg #[.int .i64 fu,.slice Au xu.length cu],.agg #[.int .i64 fv,.slice Av xv.length cv]]:Value) | 12=>(.tuple #[.agg #[.int .i64 fu,.slice Au xu.length cu],.agg #[.int .i64 fv,.slice Av xv.length cv]]:Value) | 13=>(.agg #[.int .i64 fu,.slice Au xu.length cu]:Value) | 14=>(.agg #[.int .i64 fv,.slice Av xv.length cv]:Value) | 15=>(x 10:Value) | 16=>(x 11:Value) | 17=>(undef:Value) | 18=>(undef:Value) | _=>undef) (D:=λk=>match k with | 0=>some 81 | 1=>some 82 | 2=>some 83 | 3=>some 84 | 4=>some 85 | 5=>some 86 | 6=>some 87 | 7=>some 88 | 8=>some 89 | 9=>some 90 | 10=>some 91 | 11=>some 92 | 12=>some 80 | 13=>some 93 | 14=>some 94 | 15=>some 10 | 16=>some 11 | _=>none) (J:=λaA x w'=>cP w5 87 (.int .i64 0) (.slice none 0 0) [⟨aA.getD 15 false,aA.getD 17 false,x 10,.int .i64 fu,.slice Au xu.length cu⟩,⟨aA.getD 16 false,aA.getD 18 false,x 11,.int .i64 fv,.slice Av xv.length cv⟩] w') (by kernel_rfl) ?hs ?hd ?hsp ?h0 ?step ?fin
    case hs=>
     intro i o ho;have hi:i<19:=(Array.getElem?_eq_some_iff.1 ho).1;rcases sE hi with rfl | rfl | rfl | rfl | rfl | rfl | rfl | rfl | rfl | rfl | rfl | rfl | rfl | rfl | rfl | rfl | rfl | rfl | rfl
     all_goals obtain rfl:=Option.some.inj (show some _=some o from ho)
     all_goals exact⟨by simp[Region.binds],rfl,λs hs=>by first | (cases hs;done) | (obtain rfl:=Option.some.inj hs;show _<182;decide)⟩
    case hd=>
     intro k k' s hk hk' h h';have hk:k<19:=hk;have hk':k'<19:=hk';refine dL (D:=[some 81,some 82,some 83,some 84,some 85,some 86,some 87,some 88,some 89,some 90,some 91,some 92,some 80,some 93,some 94,some 10,some 11,none,none]) (by decide) (k:=k) (k':=k') (s:=s) ?_ ?_
     . rcases sE hk with rfl | rfl | rfl | rfl | rfl | rfl | rfl | rfl | rfl | rfl | rfl | rfl | rfl | rfl | rfl | rfl | rfl | rfl | rfl
       all_goals exact congrArg some h
     rcases sE hk' with rfl | rfl | rfl | rfl | rfl | rfl | rfl | rfl | rfl | rfl | rfl | rfl | rfl | rfl | rfl | rfl | rfl | rfl | rfl
     all_goals exact congrArg some h'
    case hsp=>
     intro k s hk hks x;have hk:k<19:=hk;rcases sE hk with rfl | rfl | rfl | rfl | rfl | rfl | rfl | rfl | rfl | rfl | rfl | rfl | rfl | rfl | rfl | rfl | rfl | rfl | rfl
     all_goals first | rfl | (obtain rfl:=Option.some.inj hks;rfl) | cases hks
    case h0=>
     exact cP.start ((Below.refl _ _).drew) (by simp)
    case step=>
     intro aA a w' i o hz hts hI hJ ho hl hdep;have hz:aA.size=19:=hz;have hi:i<19:=(Array.getElem?_eq_some_iff.1 ho).1;try dsimp only at hJ
     obtain⟨q0,q1,q2,q3,q4,q5,q6,q7,q8⟩:=Hq5'.out w' hJ.1;rcases sE hi with rfl | rfl | rfl | rfl | rfl | rfl | rfl | rfl | rfl | rfl | rfl | rfl | rfl | rfl | rfl | rfl | rfl | rfl | rfl
     all_goals obtain rfl:=Option.some.inj (show some _=some o from ho)
     . have e2:(a.tmps[2]?).getD undef=(.slice (some ⟨mb,mo,none⟩) d.length cm:Value):=gD (hI.fix 2 (by decide));refine aF ho rfl (aE (v:=.slice (some ⟨mb,mo,none⟩) d.length cm) (w':=w') (by simp[execOp,e2,go_sem]) ⟨_,rfl,Or.inr rfl,?_⟩);have hK:=hJ;rw[<-aB (l:=aA) (i:=0) (k:=15) (by decide)]at hK;rw[<-aB (l:=aA) (i:=0) (k:=16) (by decide)]at hK;rw[<-aB (l:=aA) (i:=0) (k:=17) (by decide)]at hK;rw[<-aB (l:=aA) (i:=0) (k:=18) (by decide)]at hK;rw[<-aC (a:=a) (d:=81) (s:=10) (v:=.slice (some ⟨mb,mo,none⟩) d.length cm) (by decide)]at hK;rw[<-aC (a:=a) (d:=81) (s:=11) (v:=.slice (some ⟨mb,mo,none⟩) d.length cm) (by decide)]at hK;exact hK
     . have e3:(a.tmps[3]?).getD undef=(.pointer (some ⟨w.heap.size,0,none⟩):Value):=gD (hI.fix 3 (by decide));refine aF ho rfl (aE (v:=.pointer (some ⟨w.heap.size,2,none⟩)) (w':=w') (by simp[execOp,e3,go_sem]) ⟨_,rfl,Or.inr rfl,?_⟩);have hK:=hJ;rw[<-aB (l:=aA) (i:=1) (k:=15) (by decide)]at hK;rw[<-aB (l:=aA) (i:=1) (k:=16) (by decide)]at hK;rw[<-aB (l:=aA) (i:=1) (k:=17) (by decide)]at hK;rw[<-aB (l:=aA) (i:=1) (k:=18) (by decide)]at hK;rw[<-aC (a:=a) (d:=82) (s:=10) (v:=.pointer (some ⟨w.heap.size,2,none⟩)) (by decide)]at hK;rw[<-aC (a:=a) (d:=82) (s:=11) (v:=.pointer (some ⟨w.heap.size,2,none⟩)) (by decide)]at hK;exact hK
     . have e82:(a.tmps[82]?).getD undef=(.pointer (some ⟨w.heap.size,2,none⟩):Value):=gD ((hI.done 1 82 (by simp) rfl (hdep ⟨1,.data⟩ (by simp) rfl)).resolve_left (by decide));refine aF ho rfl (aE (v:=.slice (some ⟨a2,o2,none⟩) 2 c2) (w':=w') (by simp[execOp,e82,q0,go_sem]) ⟨_,rfl,Or.inr rfl,?_⟩);have hK:=hJ;rw[<-aB (l:=aA) (i:=2) (k:=15) (by decide)]at hK;rw[<-aB (l:=aA) (i:=2) (k:=16) (by decide)]at hK;rw[<-aB (l:=aA) (i:=2) (k:=17) (by decide)]at hK;rw[<-aB (l:=aA) (i:=2) (k:=18) (by decide)]at hK;rw[<-aC (a:=a) (d:=83) (s:=10) (v:=.slice (some ⟨a2,o2,none⟩) 2 c2) (by decide)]at hK;rw[<-aC (a:=a) (d:=83) (s:=11) (v:=.slice (some ⟨a2,o2,none⟩) 2 c2) (by decide)]at hK;exact hK
     . have e83:(a.tmps[83]?).getD undef=(.slice (some ⟨a2,o2,none⟩) 2 c2:Value):=gD ((hI.done 2 83 (by simp) rfl (hdep ⟨2,.data⟩ (by simp) rfl)).resolve_left (by decide));refine aF ho rfl (aE (v:=.pointer (some ⟨a2,o2+1,none⟩)) (w':=w') (by simp[execOp,e83,go_sem]) ⟨_,rfl,Or.inr rfl,?_⟩);have hK:=hJ;rw[<-aB (l:=aA) (i:=3) (k:=15) (by decide)]at hK;rw[<-aB (l:=aA) (i:=3) (k:=16) (by decide)]at hK;rw[<-aB (l:=aA) (i:=3) (k:=17) (by decide)]at hK;rw[<-aB (l:=aA) (i:=3) (k:=18) (by decide)]at hK;rw[<-aC (a:=a) (d:=84) (s:=10) (v:=.pointer (some ⟨a2,o2+1,none⟩)) (by decide)]at hK;rw[<-aC (a:=a) (d:=84) (s:=11) (v:=.pointer (some ⟨a2,o2+1,none⟩)) (by decide)]at hK;exact hK
     . have e84:(a.tmps[84]?).getD undef=(.pointer (some ⟨a2,o2+1,none⟩):Value):=gD ((hI.done 3 84 (by simp) rfl (hdep ⟨3,.data⟩ (by simp) rfl)).resolve_left (by decide));refine aF ho rfl (aE (v:=.int .i64 (j:Nat)) (w':=w') (by simp[execOp,e84,q2,go_sem]) ⟨_,rfl,Or.inr rfl,?_⟩);have hK:=hJ;rw[<-aB (l:=aA) (i:=4) (k:=15) (by decide)]at hK;rw[<-aB (l:=aA) (i:=4) (k:=16) (by decide)]at hK;rw[<-aB (l:=aA) (i:=4) (k:=17) (by decide)]at hK;rw[<-aB (l:=aA) (i:=4) (k:=18) (by decide)]at hK;rw[<-aC (a:=a) (d:=85) (s:=10) (v:=.int .i64 (j:Nat)) (by decide)]at hK;rw[<-aC (a:=a) (d:=85) (s:=11) (v:=.int .i64 (j:Nat)) (by decide)]at hK;exact hK
     . have e81:(a.tmps[81]?).getD undef=(.slice (some ⟨mb,mo,none⟩) d.length cm:Value):=gD ((hI.done 0 81 (by simp) rfl (hdep ⟨0,.data⟩ (by simp) rfl)).resolve_left (by decide));have e85:(a.tmps[85]?).getD undef=(.int .i64 (j:Nat):Value):=gD ((hI.done 4 85 (by simp) rfl (hdep ⟨4,.data⟩ (by simp) rfl)).resolve_left (by decide));refine aF ho rfl (aE (v:=.pointer (some ⟨mb,mo+j*5,none⟩)) (w':=w') (by simp[execOp,e81,e85,hj,hjj,go_sem]) ⟨_,rfl,Or.inr rfl,?_⟩);have hK:=hJ;rw[<-aB (l:=aA) (i:=5) (k:=15) (by decide)]at hK;rw[<-aB (l:=aA) (i:=5) (k:=16) (by decide)]at hK;rw[<-aB (l:=aA) (i:=5) (k:=17) (by decide)]at hK;rw[<-aB (l:=aA) (i:=5) (k:=18) (by decide)]at hK;rw[<-aC (a:=a) (d:=86) (s:=10) (v:=.pointer (some ⟨mb,mo+j*5,none⟩)) (by decide)]at hK;rw[<-aC (a:=a) (d:=86) (s:=11) (v:=.pointer (some ⟨mb,mo+j*5,none⟩)) (by decide)]at hK;exact hK
     . have e86:(a.tmps[86]?).getD undef=(.pointer (some ⟨mb,mo+j*5,none⟩):Value):=gD ((hI.done 5 86 (by simp) rfl (hdep ⟨5,.data⟩ (by simp) rfl)).resolve_left (by decide));refine aF ho rfl (aE (v:=.agg #[.bool n3,.int .i64 f3,.slice A5 ys3.length c5,.int .i64 f4,.slice A6 ys4.length c6]) (w':=w') (by simp[execOp,e86,q4,q5,q6,q7,q8,go_sem]) ⟨_,rfl,Or.inr rfl,?_⟩);have hK:=hJ;rw[<-aB (l:=aA) (i:=6) (k:=15) (by decide)]at hK;rw[<-aB (l:=aA) (i:=6) (k:=16) (by decide)]at hK;rw[<-aB (l:=aA) (i:=6) (k:=17) (by decide)]at hK;rw[<-aB (l:=aA) (i:=6) (k:=18) (by decide)]at hK;rw[<-aC (a:=a) (d:=87) (s:=10) (v:=.agg #[.bool n3,.int .i64 f3,.slice A5 ys3.length c5,.int .i64 f4,.slice A6 ys4.length c6]) (by decide)]at hK;rw[<-aC (a:=a) (d:=87) (s:=11) (v:=.agg #[.bool n3,.int .i64 f3,.slice A5 ys3.length c5,.int .i64 f4,.slice A6 ys4.length c6]) (by decide)]at hK;exact hK
     . have e3:(a.tmps[3]?).getD undef=(.pointer (some ⟨w.heap.size,0,none⟩):Value):=gD (hI.fix 3 (by decide));refine aF ho rfl (aE (v:=.pointer (some ⟨w.heap.size,3,none⟩)) (w':=w') (by simp[execOp,e3,go_sem]) ⟨_,rfl,Or.inr rfl,?_⟩);have hK:=hJ;rw[<-aB (l:=aA) (i:=7) (k:=15) (by decide)]at hK;rw[<-aB (l:=aA) (i:=7) (k:=16) (by decide)]at hK;rw[<-aB (l:=aA) (i:=7) (k:=17) (by decide)]at hK;rw[<-aB (l:=aA) (i:=7) (k:=18) (by decide)]at hK;rw[<-aC (a:=a) (d:=88) (s:=10) (v:=.pointer (some ⟨w.heap.size,3,none⟩)) (by decide)]at hK;rw[<-aC (a:=a) (d:=88) (s:=11) (v:=.pointer (some ⟨w.heap.size,3,none⟩)) (by decide)]at hK;exact hK
     . have e88:(a.tmps[88]?).getD undef=(.pointer (some ⟨w.heap.size,3,none⟩):Value):=gD ((hI.done 7 88 (by simp) rfl (hdep ⟨7,.data⟩ (by simp) rfl)).resolve_left (by decide));refine aF ho rfl (aE (v:=.slice (some ⟨a3,o3,none⟩) 2 c3) (w':=w') (by simp[execOp,e88,q1,go_sem]) ⟨_,rfl,Or.inr rfl,?_⟩);have hK:=hJ;rw[<-aB (l:=aA) (i:=8) (k:=15) (by decide)]at hK;rw[<-aB (l:=aA) (i:=8) (k:=16) (by decide)]at hK;rw[<-aB (l:=aA) (i:=8) (k:=17) (by decide)]at hK;rw[<-aB (l:=aA) (i:=8) (k:=18) (by decide)]at hK;rw[<-aC (a:=a) (d:=89) (s:=10) (v:=.slice (some ⟨a3,o3,none⟩) 2 c3) (by decide)]at hK;rw[<-aC (a:=a) (d:=89) (s:=11) (v:=.slice (some ⟨a3,o3,none⟩) 2 c3) (by decide)]at hK;exact hK
     . have e89:(a.tmps[89]?).getD undef=(.slice (some ⟨a3,o3,none⟩) 2 c3:Value):=gD ((hI.done 8 89 (by simp) rfl (hdep ⟨8,.data⟩ (by simp) rfl)).resolve_left (by decide));refine aF ho rfl (aE (v:=.pointer (some ⟨a3,o3+1,none⟩)) (w':=w') (by simp[execOp,e89,go_sem]) ⟨_,rfl,Or.inr rfl,?_⟩);have hK:=hJ;rw[<-aB (l:=aA) (i:=9) (k:=15) (by decide)]at hK;rw[<-aB (l:=aA) (i:=9) (k:=16) (by decide)]at hK;rw[<-aB (l:=aA) (i:=9) (k:=17) (by decide)]at hK;rw[<-aB (l:=aA) (i:=9) (k:=18) (by decide)]at hK;rw[<-aC (a:=a) (d:=90) (s:=10) (v:=.pointer (some ⟨a3,o3+1,none⟩)) (by decide)]at hK;rw[<-aC (a:=a) (d:=90) (s:=11) (v:=.pointer (some ⟨a3,o3+1,none⟩)) (by decide)]at hK;exact hK
     . have e90:(a.tmps[90]?).getD undef=(.pointer (some ⟨a3,o3+1,none⟩):Value):=gD ((hI.done 9 90 (by simp) rfl (hdep ⟨9,.data⟩ (by simp) rfl)).resolve_left (by decide));refine aF ho rfl (aE (v:=.bool r1) (w':=w') (by simp[execOp,e90,q3,go_sem]) ⟨_,rfl,Or.inr rfl,?_⟩);have hK:=hJ;rw[<-aB (l:=aA) (i:=10) (k:=15) (by decide)]at hK;rw[<-aB (l:=aA) (i:=10) (k:=16) (by decide)]at hK;rw[<-aB (l:=aA) (i:=10) (k:=17) (by decide)]at hK;rw[<-aB (l:=aA) (i:=10) (k:=18) (by decide)]at hK;rw[<-aC (a:=a) (d:=91) (s:=10) (v:=.bool r1) (by decide)]at hK;rw[<-aC (a:=a) (d:=91) (s:=11) (v:=.bool r1) (by decide)]at hK;exact hK
     . have e87:(a.tmps[87]?).getD undef=(.agg #[.bool n3,.int .i64 f3,.slice A5 ys3.length c5,.int .i64 f4,.slice A6 ys4.length c6]:Value):=gD ((hI.done 6 87 (by simp) rfl (hdep ⟨6,.data⟩ (by simp) rfl)).resolve_left (by decide));have e91:(a.tmps[91]?).getD undef=(.bool r1:Value):=gD ((hI.done 10 91 (by simp) rfl (hdep ⟨10,.data⟩ (by simp) rfl)).resolve_left (by decide));refine aF ho rfl (aG (by simp[execOp,resolve,invoke,e87,e91,go_sem]) (Hpu.out w') ?_);rintro e w6 ⟨rfl,hb6⟩;refine⟨_,rfl,_,rfl,Or.inr rfl,?_⟩;have hK:=hJ.step hb6;rw[<-aB (l:=aA) (i:=11) (k:=15) (by decide)]at hK;rw[<-aB (l:=aA) (i:=11) (k:=16) (by decide)]at hK;rw[<-aB (l:=aA) (i:=11) (k:=17) (by decide)]at hK;rw[<-aB (l:=aA) (i:=11) (k:=18) (by decide)]at hK;rw[<-aC (a:=a) (d:=92) (s:=10) (v:=.tuple #[.agg #[.int .i64 fu,.slice Au xu.length cu],.agg #[.int .i64 fv,.slice Av xv.length cv]]) (by decide)]at hK;rw[<-aC (a:=a) (d:=92) (s:=11) (v:=.tuple #[.agg #[.int .i64 fu,.slice Au xu.length cu],.agg #[.int .i64 fv,.slice Av xv.length cv]]) (by decide)]at hK;exact hK
     . have e92:(a.tmps[92]?).getD undef=(.tuple #[.agg #[.int .i64 fu,.slice Au xu.length cu],.agg #[.int .i64 fv,.slice Av xv.length cv]]:Value):=gD ((hI.done 11 92 (by simp) rfl (hdep ⟨11,.data⟩ (by simp) rfl)).resolve_left (by decide));refine aF ho rfl (aE (v:=.tuple #[.agg #[.int .i64 fu,.slice Au xu.length cu],.agg #[.int .i64 fv,.slice Av xv.length cv]]) (w':=w') (by simp[execOp,e92,go_sem]) ⟨_,rfl,Or.inr rfl,?_⟩);have hK:=hJ;rw[<-aB (l:=aA) (i:=12) (k:=15) (by decide)]at hK;rw[<-aB (l:=aA) (i:=12) (k:=16) (by decide)]at hK;rw[<-aB (l:=aA) (i:=12) (k:=17) (by decide)]at hK;rw[<-aB (l:=aA) (i:=12) (k:=18) (by decide)]at hK;rw[<-aC (a:=a) (d:=80) (s:=10) (v:=.tuple #[.agg #[.int .i64 fu,.slice Au xu.length cu],.agg #[.int .i64 fv,.slice Av xv.length cv]]) (by decide)]at hK;rw[<-aC (a:=a) (d:=80) (s:=11) (v:=.tuple #[.agg #[.int .i64 fu,.slice Au xu.length cu],.agg #[.int .i64 fv,.slice Av xv.length cv]]) (by decide)]at hK;exact hK
     . have e80:(a.tmps[80]?).getD undef=(.tuple #[.agg #[.int .i64 fu,.slice Au xu.length cu],.agg #[.int .i64 fv,.slice Av xv.length cv]]:Value):=gD ((hI.done 12 80 (by simp) rfl (hdep ⟨12,.data⟩ (by simp) rfl)).resolve_left (by decide));refine aF ho rfl (aE (v:=.agg #[.int .i64 fu,.slice Au xu.length cu]) (w':=w') (by simp[execOp,e80,go_sem]) ⟨_,rfl,Or.inr rfl,?_⟩);have hK:=hJ;rw[<-aB (l:=aA) (i:=13) (k:=15) (by decide)]at hK;rw[<-aB (l:=aA) (i:=13) (k:=16) (by decide)]at hK;rw[<-aB (l:=aA) (i:=13) (k:=17) (by decide)]at hK;rw[<-aB (l:=aA) (i:=13) (k:=18) (by decide)]at hK;rw[<-aC (a:=a) (d:=93) (s:=10) (v:=.agg #[.int .i64 fu,.slice Au xu.length cu]) (by decide)]at hK;rw[<-aC (a:=a) (d:=93) (s:=11) (v:=.agg #[.int .i64 fu,.slice Au xu.length cu]) (by decide)]at hK;exact hK
     . have e80:(a.tmps[80]?).getD undef=(.tuple #[.agg #[.int .i64 fu,.slice Au xu.length cu],.agg #[.int .i64 fv,.slice Av xv.length cv]]:Value):=gD ((hI.done 12 80 (by simp) rfl (hdep ⟨12,.data⟩ (by simp) rfl)).resolve_left (by decide));refine aF ho rfl (aE (v:=.agg #[.int .i64 fv,.slice Av xv.length cv]) (w':=w') (by simp[execOp,e80,go_sem]) ⟨_,rfl,Or.inr rfl,?_⟩);have hK:=hJ;rw[<-aB (l:=aA) (i:=14) (k:=15) (by decide)]at hK;rw[<-aB (l:=aA) (i:=14) (k:=16) (by decide)]at hK;rw[<-aB (l:=aA) (i:=14) (k:=17) (by decide)]at hK;rw[<-aB (l:=aA) (i:=14) (k:=18) (by decide)]at hK;rw[<-aC (a:=a) (d:=94) (s:=10) (v:=.agg #[.int .i64 fv,.slice Av xv.length cv]) (by decide)]at hK;rw[<-aC (a:=a) (d:=94) (s:=11) (v:=.agg #[.int .i64 fv,.slice Av xv.length cv]) (by decide)]at hK;exact hK
     . refine aF ho rfl (aE (v:=.pointer (some ⟨w'.heap.size,0,none⟩)) (w':=w'.alloc (.cells #[.int .i64 0,.slice none 0 0] 87)) (by simp[execOp,go_sem]) ⟨_,rfl,Or.inl (by decide),?_⟩);have hK:=hJ.lay 0 (by simp) hl;show cP w5 87 (.int .i64 0) (.slice none 0 0) [⟨(aA.setIfInBounds 15 true).getD 15 false,(aA.setIfInBounds 15 true).getD 17 false,(a.put (some 10) (.pointer (some ⟨w'.heap.size,0,none⟩))).tmps.getD 10 undef,.int .i64 fu,.slice Au xu.length cu⟩,⟨(aA.setIfInBounds 15 true).getD 16 false,(aA.setIfInBounds 15 true).getD 18 false,(a.put (some 10) (.pointer (some ⟨w'.heap.size,0,none⟩))).tmps.getD 11 undef,.int .i64 fv,.slice Av xv.length cv⟩] _
       rw[aJ (by omega)];rw[aB (l:=aA) (i:=15) (k:=16) (by decide)];rw[aB (l:=aA) (i:=15) (k:=17) (by decide)];rw[aB (l:=aA) (i:=15) (k:=18) (by decide)];rw[aS (a:=a) (s:=10) (by rw[hts];show 10<182;decide)];rw[aC (a:=a) (d:=10) (s:=11) (by decide)];exact hK
     . refine aF ho rfl (aE (v:=.pointer (some ⟨w'.heap.size,0,none⟩)) (w':=w'.alloc (.cells #[.int .i64 0,.slice none 0 0] 87)) (by simp[execOp,go_sem]) ⟨_,rfl,Or.inl (by decide),?_⟩);have hK:=hJ.lay 1 (by simp) hl;show cP w5 87 (.int .i64 0) (.slice none 0 0) [⟨(aA.setIfInBounds 16 true).getD 15 false,(aA.setIfInBounds 16 true).getD 17 false,(a.put (some 11) (.pointer (some ⟨w'.heap.size,0,none⟩))).tmps.getD 10 undef,.int .i64 fu,.slice Au xu.length cu⟩,⟨(aA.setIfInBounds 16 true).getD 16 false,(aA.setIfInBounds 16 true).getD 18 false,(a.put (some 11) (.pointer (some ⟨w'.heap.size,0,none⟩))).tmps.getD 11 undef,.int .i64 fv,.slice Av xv.length cv⟩] _
       rw[aB (l:=aA) (i:=16) (k:=15) (by decide)];rw[aJ (by omega)];rw[aB (l:=aA) (i:=16) (k:=17) (by decide)];rw[aB (l:=aA) (i:=16) (k:=18) (by decide)];rw[aC (a:=a) (d:=11) (s:=10) (by decide)];rw[aS (a:=a) (s:=11) (by rw[hts];show 11<182;decide)];exact hK
     . have l10:=hdep ⟨15,.data⟩ (by simp) rfl;have e93:(a.tmps[93]?).getD undef=(.agg #[.int .i64 fu,.slice Au xu.length cu]:Value):=gD ((hI.done 13 93 (by simp) rfl (hdep ⟨13,.data⟩ (by simp) rfl)).resolve_left (by decide));have hla:aA.getD 15 false=true:=hdep ⟨15,.data⟩ (by simp) rfl;obtain⟨b,hx,hbx,hK⟩:=hJ.fill 0 (by simp) hla hl;obtain⟨m0,m1,m2⟩:=hbx.cells;have ebox:(a.tmps[10]?).getD undef=.pointer (some ⟨b,0,none⟩):=(by simpa using hx);refine aF ho rfl (bF (w':=(w'.setCell ⟨b,0,none⟩ (.int .i64 fu)).setCell ⟨b,1,none⟩ (.slice Au xu.length cu)) (by simp[execOp,ebox,e93,m0,m1,m2,go_sem]) ⟨_,rfl,Or.inr rfl,?_⟩);show cP w5 87 (.int .i64 0) (.slice none 0 0) [⟨(aA.setIfInBounds 17 true).getD 15 false,(aA.setIfInBounds 17 true).getD 17 false,a.tmps.getD 10 undef,.int .i64 fu,.slice Au xu.length cu⟩,⟨(aA.setIfInBounds 17 true).getD 16 false,(aA.setIfInBounds 17 true).getD 18 false,a.tmps.getD 11 undef,.int .i64 fv,.slice Av xv.length cv⟩] _
       rw[aB (l:=aA) (i:=17) (k:=15) (by decide)];rw[aB (l:=aA) (i:=17) (k:=16) (by decide)];rw[aJ (by omega)];rw[aB (l:=aA) (i:=17) (k:=18) (by decide)];rw[hla];exact hK
     have l11:=hdep ⟨16,.data⟩ (by simp) rfl;have e94:(a.tmps[94]?).getD undef=(.agg #[.int .i64 fv,.slice Av xv.length cv]:Value):=gD ((hI.done 14 94 (by simp) rfl (hdep ⟨14,.data⟩ (by simp) rfl)).resolve_left (by decide));have hla:aA.getD 16 false=true:=hdep ⟨16,.data⟩ (by simp) rfl;obtain⟨b,hx,hbx,hK⟩:=hJ.fill 1 (by simp) hla hl;obtain⟨m0,m1,m2⟩:=hbx.cells;have ebox:(a.tmps[11]?).getD undef=.pointer (some ⟨b,0,none⟩):=(by simpa using hx);refine aF ho rfl (bF (w':=(w'.setCell ⟨b,0,none⟩ (.int .i64 fv)).setCell ⟨b,1,none⟩ (.slice Av xv.length cv)) (by simp[execOp,ebox,e94,m0,m1,m2,go_sem]) ⟨_,rfl,Or.inr rfl,?_⟩);show cP w5 87 (.int .i64 0) (.slice none 0 0) [⟨(aA.setIfInBounds 18 true).getD 15 false,(aA.setIfInBounds 18 true).getD 17 false,a.tmps.getD 10 undef,.int .i64 fu,.slice Au xu.length cu⟩,⟨(aA.setIfInBounds 18 true).getD 16 false,(aA.setIfInBounds 18 true).getD 18 false,a.tmps.getD 11 undef,.int .i64 fv,.slice Av xv.length cv⟩] _
     rw[aB (l:=aA) (i:=18) (k:=15) (by decide)];rw[aB (l:=aA) (i:=18) (k:=16) (by decide)];rw[aB (l:=aA) (i:=18) (k:=17) (by decide)];rw[aJ (by omega)];rw[hla];exact hK
    case fin=>
     intro aA x wz hz hall hJ;have hz:aA.size=19:=hz;have hall:∀i,i<19->aA.getD i false=true:=hall;simp only[List.size_toArray,List.length_cons,List.length_nil,Nat.reduceAdd,bI];simp
     rw[hall 15 (by omega),hall 16 (by omega),hall 17 (by omega),hall 18 (by omega)]at hJ;obtain⟨hbz,b1,b2,e1,e2,p1,p2,q1,q2,hne⟩:=hJ.out2;rw[e1,e2];obtain⟨w6,rfl⟩:∃w6:World,w6=wz:=⟨_,rfl⟩;obtain⟨bu,rfl⟩:∃b,b=b1:=⟨_,rfl⟩;obtain⟨bv,rfl⟩:∃b,b=b2:=⟨_,rfl⟩;have hz6:=hbz.size;have hb46:Below w4.heap.size w4 w6:=Hb5.out.trans (hbz.mono hz5);have hlow6:Below w.heap.size w w6:=Hlow4.out.trans (hb46.mono (by have:=Hlow4.out.size;omega));have hBu:=q1;have hBv:=q2;have hBa:=Ba.out.low hbz;have hBt:=Bt.out.low hbz;have hra6:=Hra.out.low hb46 (Nat.le_refl _);have hrt6:=Hrt.out.low hb46 (Nat.le_refl _);have hru6:=Hru.out.low hb46 (Nat.le_refl _);have hrv6:=Hrv.out.low hb46 (Nat.le_refl _);have hpos6:=(HStp.out.pos.low hlow6 hB).more hBm;have hz46:w4.heap.size<=w6.heap.size:=(by omega);obtain⟨-,-,y4,-⟩:=Hx4.out w6 hb46;obtain⟨⟨pf,pa⟩,ok,hq⟩:∃p ok,sR (.mk fu xu) s.pos=(p,ok):=⟨_,_,rfl⟩;have hat:=aN6 fu xu _ v4 s.pos w4.heap.size w6 hru6 hpos6 hz46;rw[hq]at hat;have Hat:=Lh hat;have HBu:=Lh hBu;have HBv:=Lh hBv;have HBa:=Lh hBa;have HBt:=Lh hBt;have Hra6:=Lh hra6;have Hrt6:=Lh hrt6;have Hru6:=Lh hru6;have Hrv6:=Lh hrv6;have Hpos6:=Lh hpos6;have Hb46:=Lh hb46;have Hlow6:=Lh hlow6;have Hq:=Lh hq;obtain⟨m0,m1,-⟩:=hBu.cells;have hul:=hBu.lt;have hvl:=hBv.lt;have hal:=hBa.lt;have htl:=hBt.lt;clear hJ hall hz hbz q1 q2 e1 e2 hne hb46 hlow6 hBu hBv hBa hBt hra6 hrt6 hru6 hrv6 hpos6 hat hq Ba Bt Hra Hrt Hru Hrv;go_upto_region 7 with(
      go_at_call 73
      refine Hat.out.mono ?_;rintro e w7 ⟨Aq,cq,rfl,hrq,hb7⟩;have Hrq:=Lh hrq;have Hb7:=Lh hb7;clear hrq hb7)
     simp only[Tm.fn,Tm.args]at Hrq ⊢;have hb8:=aD w7 (.cells #[.int .i64 pf,.slice Aq pa.length cq] 87);have hbp:aL w7.heap.size 87 (.int .i64 pf) (.slice Aq pa.length cq) (w7.alloc (.cells #[.int .i64 pf,.slice Aq pa.length cq] 87)):=heap_alloc_new w7 _;generalize w7.alloc (.cells #[.int .i64 pf,.slice Aq pa.length cq] 87)=w8 at hb8 hbp ⊢;have hz7:=Hb7.out.size;have hz8:=hb8.size;have hb68:Below w6.heap.size w6 w8:=Hb7.out.trans (hb8.mono hz7);have hlow8:Below w.heap.size w w8:=Hlow6.out.trans (hb68.mono (by have:=Hlow6.out.size;omega));have HBp:=Lh hbp;have Hb68:=Lh hb68;have Hlow8:=Lh hlow8;have Hrq8:=Lh (Hrq.out.low hb8 (by omega));clear m0 m1 y4 hb8 hbp hb68 hlow8 Hat;cases ok with
     | false=>
      have hno:dR s c d=none:=by
       rw[Hm2.out];unfold jZ;have:atT (.mk fu xu) s.pos=none:=by
        have h:=Hq.out;unfold sR at h;cases h2:atT (.mk fu xu) s.pos with
        | none=>rfl
        | some x=>rw[h2]at h;injection h with _ h;cases h
       rw[HR1.out,hsu,this]
      have Hno:=Lh hno;clear hno;go_wp2_with fail;refine bodyPost_ret (v:=.tuple #[.slice none 0 0,.bool false]) (by simp[results,Try.results50,go_sem]) rfl ?_;rw[Hno.out];exact⟨Hlow8.out,_,rfl,λc h=>by cases h⟩
     | true=>
      have hatp:atT (.mk fu xu) s.pos=some (.mk pf pa):=by
       have h:=Hq.out;unfold sR at h;cases h2:atT (.mk fu xu) s.pos with
       | none=>rw[h2]at h;injection h with _ h;cases h
       | some x=>rw[h2]at h;injection h with h _;rw[h]
      obtain⟨apb,hapb⟩:∃b,iV (.mk fa xa) (.mk ft xt) (.mk fu xu) (.mk fv xv) s.pos.length=b:=⟨_,rfl⟩;have hm3:dR s c d=if apb=false then none
       else if s.rule=4 then(if pf<0 then none else match cB (.mk fa xa) (.mk pf pa)with
        | some σ=>some (gU σ (c.eraseIdx (li s 0)++eD (cW d) (li s 1) ⟨n3,.mk f3 ys3,.mk f4 ys4⟩ r1 s.pos (.mk ft xt)))
        | none=>none)
       else if c.length≠1 then none
       else if (bH [] (.mk fa xa) (.mk pf pa)).1=false then none
       else if aH1 (bH [] (.mk fa xa) (.mk pf pa)).2 (.mk ft xt)=true then none
       else some (eD (cW d) (li s 1) ⟨n3,.mk f3 ys3,.mk f4 ys4⟩ r1 s.pos (cX (Mt.get (bH [] (.mk fa xa) (.mk pf pa)).2) (.mk ft xt))):=by
       rw[Hm2.out];unfold jZ;rw[HR1.out,HR0.out,hsu,hatp];simp only[hsa,hst,hsv,hapb,Tm.fn]
      have hap:=aB4 fa ft fu fv xa xt xu xv _ _ _ _ v4 s.pos w4.heap.size w8 (Hra6.out.low Hb68.out (by omega)) (Hrt6.out.low Hb68.out (by omega)) (Hru6.out.low Hb68.out (by omega)) (Hrv6.out.low Hb68.out (by omega)) (Hpos6.out.low Hb68.out (by omega)) (by omega);rw[hapb]at hap;have Hap:=Lh hap;have Hm3:=Lh hm3;have Hatp:=Lh hatp;obtain⟨k0,k1,-⟩:=(HBa.out.low Hb68.out).cells;obtain⟨k2,k3,-⟩:=(HBt.out.low Hb68.out).cells;obtain⟨k4,k5,-⟩:=(HBu.out.low Hb68.out).cells;obtain⟨k6,k7,-⟩:=(HBv.out.low Hb68.out).cells;obtain⟨-,-,y4,-⟩:=Hx4.out w8 (Hb46.out.trans (Hb68.out.mono (by omega)));clear hap hm3 hatp hapb;cases apb with
      | false=>
       have Hno:=Lh (show dR s c d=none by rw[Hm3.out,if_pos rfl]);go_wp2_with (
        go_at_call 74
        refine Hap.out.mono ?_;rintro e w9 ⟨rfl,hb9⟩;have Hb9:=Lh hb9;clear hb9)
       refine bodyPost_ret (v:=.tuple #[.slice none 0 0,.bool false]) (by simp[results,Try.results50,go_sem]) rfl ?_;rw[Hno.out];exact⟨(Hlow8.out.trans (Hb9.out.mono (by have:=Hlow8.out.size;omega))),_,rfl,λc h=>by cases h⟩
      | true=>
       go_upto_region 9 with(
        go_at_call 74
        refine Hap.out.mono ?_;rintro e w9 ⟨rfl,hb9⟩;have Hb9:=Lh hb9;clear hb9)
       clear k0 k1 k2 k3 k4 k5 k6 k7 y4;have hz9:=Hb9.out.size;have hb69:Below w6.heap.size w6 w9:=Hb68.out.trans (Hb9.out.mono (by omega));have hb49:Below w4.heap.size w4 w9:=Hb46.out.trans (hb69.mono hz46);have hlow9:Below w.heap.size w w9:=Hlow8.out.trans (Hb9.out.mono (by have:=Hlow8.out.size;omega));have y0:=(((HX1.out.low Hb3.out).low Hb4.out).low hb49).cells.1;have hBp9:=HBp.out.low Hb9.out;have hBa9:=(HBa.out.low Hb68.out).low Hb9.out;have hBt9:=(HBt.out.low Hb68.out).low Hb9.out;obtain⟨p0,p1,-⟩:=hBp9.cells;obtain⟨k0,k1,-⟩:=hBa9.cells;have Hb49:=Lh hb49;have Hlow9:=Lh hlow9;have HBt9:=Lh hBt9;have HBa9:=Lh hBa9;have HBp9:=Lh hBp9;have Hra9:=Lh (Hra6.out.low hb69 (by omega));have Hrt9:=Lh (Hrt6.out.low hb69 (by omega));have Hpos9:=Lh (Hpos6.out.low hb69 (by omega));have Hrq9:=Lh (Hrq8.out.low Hb9.out (by omega));have Hrdm9:=Lh (Hrdm.out.low hb49 (by omega));have Hc9:=Lh (Hc.out.low hlow9 hB);have Hx9:=Lh (λw' (hb:Below w9.heap.size w9 w')=>Hx4.out w' (hb49.trans (hb.mono (by omega))));have z49:w4.heap.size<=w9.heap.size:=(by omega);have zbt:bt<w9.heap.size:=(by omega);have zba:ba<w9.heap.size:=(by omega);have zx:=hszc c[i] (List.getElem_mem hi);rw[Hxk.out]at zx;have zy:=hszd (cW d)[j] (List.getElem_mem hjm);rw[Hy.out]at zy;have za:=oI zx r0;have zt:=oI zx (!r0);have zu:=oI zy r1;rw[hsa]at za;rw[hst]at zt;rw[hsu]at zu;have zp:=vZ _ _ _ Hatp.out;have hli1:li s 1=j:=(by have h:=HI1.out;unfold kA at h;unfold li;rw[h];exact Int.toNat_natCast j);have hli0:li s 0=i:=(by have h:=HI0.out;unfold kA at h;unfold li;rw[h];exact Int.toNat_natCast i);have zr:=zA (cW d) j ⟨n3,.mk f3 ys3,.mk f4 ys4⟩ r1 s.pos (.mk ft xt);have hsl:fF ⟨n3,.mk f3 ys3,.mk f4 ys4⟩ r1=.mk fu xu:=hsu;have hm5:=Hm3.out;rw[if_neg (by decide),hli0,hli1]at hm5;have Hm5:=Lh hm5;have Hli0:=Lh hli0;have Hli1:=Lh hli1;have Hsl:=Lh hsl;have hpx:=hpat c[i] (List.getElem_mem hi);rw[Hxk.out]at hpx;have hpa1:=aJ2 hpx r0;rw[hsa]at hpa1;have Hpat1:=Lh hpa1;simp only[aK,dN]at za zt zu zp zr zy;clear hb69 hb49 hlow9 hBp9 hBa9 hBt9 zx hli1 hli0 hsl hm5 hpx hpa1 Hap Hm3 Hx4 Hra6 Hrt6 Hru6 Hrv6 Hpos6 HBu HBv HBa HBt Hrq Hrq8 Hb7 HBp Hc;by_cases hr4:s.rule=4
       . have hq4:(s.rule==4)=true:=(by simp[hr4]);have hm6:=Hm5.out;rw[if_pos hr4]at hm6;have Hm6:=Lh hm6;clear hm6 hr4;by_cases hpf:pf<0
         . have Hno:=Lh (show dR s c d=none by rw[Hm6.out,if_pos hpf]);go_wp2_with fail;refine bodyPost_ret (v:=.tuple #[.slice none 0 0,.bool false]) (by simp[results,Try.results50,go_sem]) rfl ?_;rw[Hno.out];exact⟨Hlow9.out,_,rfl,λc h=>by cases h⟩
         have hm7:=Hm6.out;rw[if_neg hpf]at hm7;obtain⟨u,hu⟩:∃u,cB (.mk fa xa) (.mk pf pa)=u:=⟨_,rfl⟩;rw[hu]at hm7;have Hm7:=Lh hm7;have hum:=oL fa pf xa pa _ _ w4.heap.size w9 Hra9.out Hrq9.out z49 (by omega) (by omega);rw[hu]at hum;have Hum:=Lh hum;clear hm7 hu hum Hm6 Hm5;go_upto_region 13 with(
          go_at_call 68
          refine Hum.out.mono ?_;rintro e w10 ⟨mv,rfl,hum10,hb10⟩;have Hum10:=Lh hum10;have Hb10:=Lh hb10;clear hum10 hb10)
         have hz10:=Hb10.out.size;clear p0 p1 k0 k1 y0;refine rg 25 (λ_ w'=>Below w10.heap.size w10 w') ?_;intro wd hwd hbd;refine⟨?_,λhS=>?_⟩
         . exact hwd ▸ hbd
         refine ta 0 (mv) hS λhS=>?_
         refine ta 1 (.slice (some ⟨ab,off,none⟩) c.length cc) hS λhS=>?_
         refine ta 2 (.pointer (some ⟨w.heap.size,2,none⟩)) hS λhS=>?_
         refine tk 3 (.slice (some ⟨a2,o2,none⟩) 2 c2) hS ?_ λhS=>?_
         . intro w' L hn hw;have hw9:Below w9.heap.size w9 w':=Hb10.out.trans (hw.mono (by omega));obtain⟨q0,q1,q2,q3,q4,q5,q6⟩:=Hx9.out w' hw9;simp[execOp,go_sem,q0]
         refine ta 4 (.pointer (some ⟨a2,o2,none⟩)) hS λhS=>?_
         refine tk 5 (.int .i64 (i:Nat)) hS ?_ λhS=>?_
         . intro w' L hn hw;have hw9:Below w9.heap.size w9 w':=Hb10.out.trans (hw.mono (by omega));obtain⟨q0,q1,q2,q3,q4,q5,q6⟩:=Hx9.out w' hw9;simp[execOp,go_sem,q3]
         refine ta 7 (.slice (some ⟨mb,mo,none⟩) d.length cm) hS λhS=>?_
         refine ta 8 (.pointer (some ⟨w.heap.size,2,none⟩)) hS λhS=>?_
         refine tk 9 (.slice (some ⟨a2,o2,none⟩) 2 c2) hS ?_ λhS=>?_
         . intro w' L hn hw;have hw9:Below w9.heap.size w9 w':=Hb10.out.trans (hw.mono (by omega));obtain⟨q0,q1,q2,q3,q4,q5,q6⟩:=Hx9.out w' hw9;simp[execOp,go_sem,q0]
         refine ta 10 (.pointer (some ⟨a2,o2+1,none⟩)) hS λhS=>?_
         refine tk 11 (.int .i64 (j:Nat)) hS ?_ λhS=>?_
         . intro w' L hn hw;have hw9:Below w9.heap.size w9 w':=Hb10.out.trans (hw.mono (by omega));obtain⟨q0,q1,q2,q3,q4,q5,q6⟩:=Hx9.out w' hw9;simp[execOp,go_sem,q4]
         refine ta 12 (.pointer (some ⟨w.heap.size,3,none⟩)) hS λhS=>?_
         refine tk 13 (.slice (some ⟨a3,o3,none⟩) 2 c3) hS ?_ λhS=>?_
         . intro w' L hn hw;have hw9:Below w9.heap.size w9 w':=Hb10.out.trans (hw.mono (by omega));obtain⟨q0,q1,q2,q3,q4,q5,q6⟩:=Hx9.out w' hw9;simp[execOp,go_sem,q1]
         refine ta 14 (.pointer (some ⟨a3,o3+1,none⟩)) hS λhS=>?_
         refine tk 15 (.bool r1) hS ?_ λhS=>?_
         . intro w' L hn hw;have hw9:Below w9.heap.size w9 w':=Hb10.out.trans (hw.mono (by omega));obtain⟨q0,q1,q2,q3,q4,q5,q6⟩:=Hx9.out w' hw9;simp[execOp,go_sem,q6]
         refine ta 16 (.pointer (some ⟨w.heap.size,4,none⟩)) hS λhS=>?_
         refine tk 17 (v4) hS ?_ λhS=>?_
         . intro w' L hn hw;have hw9:Below w9.heap.size w9 w':=Hb10.out.trans (hw.mono (by omega));obtain⟨q0,q1,q2,q3,q4,q5,q6⟩:=Hx9.out w' hw9;simp[execOp,go_sem,q2]
         refine tk 18 (.agg #[.int .i64 ft,.slice At xt.length ct]) hS ?_ λhS=>?_
         . intro w' L hn hw;have hw9:Below w9.heap.size w9 w':=Hb10.out.trans (hw.mono (by omega));obtain⟨z2,z3,-⟩:=(HBt9.out.low hw9).cells;simp[execOp,go_sem,z2,z3]
         refine ta 22 (.bool u.isSome) hS λhS=>?_
         refine so 6 ?_;have hwdd:wd.heap.size=w10.heap.size:=(by rw[hwd]);have hbd10:Below w10.heap.size w10 wd:=hwd ▸ hbd;have hbd9:Below w9.heap.size w9 wd:=Hb10.out.trans (hbd10.mono (by omega));have hc6:=cT c i _ (λb=>b<B) wd ((Hc9.out.low hbd9 (by omega)).rdP (by omega)) hi (by omega);obtain⟨base,hbase⟩:∃b,wd.heap.size=b:=⟨_,rfl⟩;refine aG ?_ hc6 ?_
         . simp[execOp,resolve,invoke,go_sem]
         rintro e w13 ⟨v132,rfl,hown13,hb13⟩;refine⟨_,rfl,?_⟩;rw[hbase]at hown13;have hz13:=hb13.size;have hbd13:Below w9.heap.size w9 w13:=hbd9.trans (hb13.mono (by omega));refine gS ?_ λhS=>?_
         . exact hS.trans (hb13.mono hS.size)
         refine so 19 ?_;have hc19:=nC (cW d) j r1 s.pos ft xt _ v4 _ (λb=>b<w4.heap.size) w4.heap.size w13 ((Hrdm9.out.low hbd13 (by omega)).rdP (by omega)) ((Hrt9.out.low hbd13 (by omega)).rdP (by omega)) (Hpos9.out.low hbd13 (by omega)) (by omega) hjm (by omega)
          (by rw[Hy.out,Hsl.out];simp only[Tm.args];omega) (by rw[Hy.out,Hsl.out,Hatp.out];simp)
         rw[Hy.out]at hc19;refine aG ?_ hc19 ?_
         . simp[execOp,resolve,invoke,go_sem]
         rintro e w14 ⟨v145,rfl,hown14,hb14⟩;refine⟨_,rfl,?_⟩;have hz14:=hb14.size;refine gS ?_ λhS=>?_
         . exact hS.trans (hb14.mono hS.size)
         refine sl 20 ?_;have hlen1:((c.eraseIdx i).map aQ).length<=1000:=(by rw[List.length_map];have:=List.length_eraseIdx_le c i;omega);have hlen2:((eD (cW d) j ⟨n3,.mk f3 ys3,.mk f4 ys4⟩ r1 s.pos (.mk ft xt)).map aQ).length<=1000:=(by unfold eD;rw[List.length_map,List.length_set];omega);refine fC w14 rfl (.tmp 132) (.tmp 145) _ rfl nW (M:=λb=>b<w4.heap.size) (base:=base) (v:=v132) (trs:=(c.eraseIdx i).map aQ) (by simp[go_sem]) ((hown13.moreM (λb hb=>by omega)).low hb14) (u:=v145) (news:=(eD (cW d) j ⟨n3,.mk f3 ys3,.mk f4 ys4⟩ r1 s.pos (.mk ft xt)).map aQ) (by simp[go_sem])
          ((hown14.rd (by omega)).more λb hb _=>⟨hb.imp id (λh=>by omega),λe=>by have:=hown13.lt _ e;rcases hb with hb | hb <;> omega⟩) uY (by omega) (by unfold maxLen;omega) (by omega) ?_
         intro v146 w15 hown15 hup15 hat15;refine gL ?_ λhS=>?_
         . exact hS.trans (hup15.toLow (by omega) (λk e=>by have:=(hown13.lt k e).1;omega))
         refine so 21 ?_;have hz15:=hup15.size;have hrd15:=(hown15.rd (by rw[List.length_append];omega)).rd';rw[<-List.map_append]at hrd15;have hze:=fU c i;have hzs:aR (c.eraseIdx i++eD (cW d) j ⟨n3,.mk f3 ys3,.mk f4 ys4⟩ r1 s.pos (.mk ft xt))<=1000000000:=by
          rw[jH];omega
         have hc21:=gN _ mv _ (c.eraseIdx i++eD (cW d) j ⟨n3,.mk f3 ys3,.mk f4 ys4⟩ r1 s.pos (.mk ft xt)) v146 w15.heap.size w15 hrd15 (Nat.le_refl _) hzs (Hum10.out.low hS);refine aG ?_ hc21 ?_
         . simp[execOp,resolve,invoke,go_sem]
         rintro e w16 ⟨v147,rfl,hown16,hb16⟩;refine⟨_,rfl,?_⟩;refine gS ?_ λhS=>?_
         . exact hS.trans (hb16.mono hS.size)
         refine ta 23 (v147) hS λhS=>?_
         refine ta 24 (.bool u.isSome) hS λhS=>?_
         refine dn ?_;have hfin:Below w.heap.size w w16:=Hlow9.out.trans ((Hb10.out.trans (hS.mono (by omega))).mono (by have:=Hlow9.out.size;omega));have Hfin:=Lh hfin;have Hown16:=Lh hown16;have Hl1:=Lh hlen1;have Hl2:=Lh hlen2;clear hS hfin hown16 hown15 hown14 hown13 hrd15 hc21 hup15 hb14 hlen1 hlen2;go_wp2_with fail;refine bodyPost_ret (v:=.tuple #[v147,.bool u.isSome]) (by simp[results,Try.results50,go_sem]) rfl ?_;rw[Hm7.out];cases u with
         | none=>exact⟨Hfin.out,v147,rfl,λc h=>by cases h⟩
         | some σ=>
          refine⟨Hfin.out,v147,rfl,λc' h=>?_⟩;obtain rfl:=Option.some.inj h;have h1:=Hl1.out;have h2:=Hl2.out;rw[List.length_map]at h1 h2;exact(Hown16.out.rd (by unfold gU;rw[List.length_map,List.length_map,List.length_append];omega)).rd'
       have hq4:(s.rule==4)=false:=(by simp[hr4]);have hm6:=Hm5.out;rw[if_neg hr4]at hm6;have Hm6:=Lh hm6;clear hm6 hr4;have hmm:= @run_makeMap Try.prog;go_upto_region 15 with fail
       clear hmm;obtain⟨hx1,hx2,hx3,hB3,hz3⟩:=fW w9 (.map #[] 0) (.cells #[.map (some w9.heap.size),.slice none 0 0] 122) (.cells #[.pointer (some ⟨w9.heap.size+1,0,none⟩)] 120);generalize ((w9.alloc (.map #[] 0)).alloc (.cells #[.map (some w9.heap.size),.slice none 0 0] 122)).alloc (.cells #[.pointer (some ⟨w9.heap.size+1,0,none⟩)] 120)=w10 at hx1 hx2 hx3 hB3 hz3 ⊢;have hxp10:aU (w9.heap.size+1+1) 120 (.pointer (some ⟨w9.heap.size+1,0,none⟩)) w10:=hx3;have hmr10:=MtR.empty (B:=w4.heap.size) (bm:=w9.heap.size+1) (gm:=w9.heap.size) hx2 hx1;have hmt10:MtI w4.heap.size (w9.heap.size+1) w9.heap.size [] w10:=⟨_,_,hmr10⟩;have hFl:∀k,MtF (w9.heap.size+1) w9.heap.size w10 k->k=w9.heap.size+1\/k=w9.heap.size:=λk hk=>by
        rcases(hmr10.f_iff k).1 hk with e | e | e
        . exact .inl e
        . exact .inr e
        cases e
       have q0:=hxp10.cell;have y0:=(HBa9.out.low hB3).cells.1;have y1:=(HBa9.out.low hB3).cells.2.1;have y2:=(HBp9.out.low hB3).cells.1;have y3:=(HBp9.out.low hB3).cells.2.1;have Hxp10:=Lh hxp10;have Hmt10:=Lh hmt10;have HB10:=Lh hB3;have HFl:=Lh hFl;have Hz10:=Lh hz3;clear p0 p1 k0 k1 hx1 hx2 hx3 hB3 hxp10 hmr10 hmt10 hFl;by_cases hc1:c.length=1
       . have hcq:(c.length:Int)=1:=(by omega);obtain⟨b1,hb1⟩:∃b,(bH [] (.mk fa xa) (.mk pf pa)).1=b:=⟨_,rfl⟩;obtain⟨m1,hm1⟩:∃m,(bH [] (.mk fa xa) (.mk pf pa)).2=m:=⟨_,rfl⟩;have hl1:bH [] (.mk fa xa) (.mk pf pa)=(b1,m1):=(by rw[<-hb1,<-hm1]);have hm7:=Hm6.out;rw[if_neg (by omega),hb1,hm1]at hm7;have htm:=eE w4.heap.size (w9.heap.size+1) w9.heap.size (by omega) (by omega) fa pf xa pa _ _ [] w10 Hpat1.out (Hra9.out.low HB10.out (by omega)) (Hrq9.out.low HB10.out (by omega)) (by omega) Hmt10.out;rw[hl1]at htm;have Htm:=Lh htm;have Hm7:=Lh hm7;have Hc1:=Lh hc1;clear hb1 hm1 hl1 hm7 htm hz3 Hm6 Hm5 hc1;cases b1 with
         | false=>
          have Hno:=Lh (show dR s c d=none by rw[Hm7.out,if_pos rfl]);go_wp2_with (
           go_at_call 76
           refine Htm.out.mono ?_;rintro e w11 ⟨rfl,hst11⟩;have Hst11:=Lh hst11;clear hst11)
          refine bodyPost_ret (v:=.tuple #[.slice none 0 0,.bool false]) (by simp[results,Try.results50,go_sem]) rfl ?_;rw[Hno.out];exact⟨(Hlow9.out.trans ((HB10.out.trans (Hst11.out.upd.toLow (by have:=Hz10.out;omega) (λk e=>by have:=HFl.out k e;omega))).mono (by have:=Hlow9.out.size;omega))),_,rfl,λc h=>by cases h⟩
         | true=>
          have hm8:=Hm7.out;rw[if_neg (by decide)]at hm8;have Hm8:=Lh hm8;clear hm8 Hm7;go_upto_region 18 with(
           go_at_call 76
           refine Htm.out.mono ?_;rintro e w11 ⟨rfl,hst11⟩;have Hst11:=Lh hst11;clear hst11)
          have hbx12:=aD w11 (.cells #[.bool false] 4);have hxf12:aU w11.heap.size 4 (.bool false) (w11.alloc (.cells #[.bool false] 4)):=heap_alloc_new w11 _;generalize w11.alloc (.cells #[.bool false] 4)=w12 at hbx12 hxf12 ⊢;have hz11:w10.heap.size<=w11.heap.size:=Hst11.out.upd.size;have hz12:=hbx12.size;have hz10:w10.heap.size=w9.heap.size+3:=Hz10.out;have hb911:Below w9.heap.size w9 w11:=HB10.out.trans (Hst11.out.upd.toLow (by omega) (λk e=>by have:=HFl.out k e;omega));have hb912:Below w9.heap.size w9 w12:=hb911.trans (hbx12.mono (by omega));have hxp12:aU (w9.heap.size+1+1) 120 (.pointer (some ⟨w9.heap.size+1,0,none⟩)) w12:=(Hxp10.out.upd Hst11.out.upd (λe=>by have:=HFl.out _ e;omega)).low hbx12;have hmo:=MtI.ok (B:=w4.heap.size) (bm:=w9.heap.size+1) (gm:=w9.heap.size) (by omega) (by omega);have hml:=hmo.low m1 w11 w12 Hst11.out.st hbx12;have hI12:iG w4.heap.size (w9.heap.size+1) w9.heap.size (w9.heap.size+1+1) w11.heap.size m1 false w12:=
           ⟨hxf12,hxp12,hml.1,λe=>absurd (hmo.lt m1 w11 _ Hst11.out.st (hml.2 _ e)) (by omega)⟩
          have hea:=uV (kO m1) (λk=>k=w11.heap.size) (iG w4.heap.size (w9.heap.size+1) w9.heap.size (w9.heap.size+1+1) w11.heap.size m1) (iG.ok (by omega) (by omega)) w4.heap.size (by rintro k rfl;omega)
           #[.pointer (some ⟨w9.heap.size+1+1,0,none⟩),.pointer (some ⟨w11.heap.size,0,none⟩)] (λs v n w h=>aC8 w4.heap.size (w9.heap.size+1) w9.heap.size (w9.heap.size+1+1) w11.heap.size (by omega) (by omega) (by omega) m1 s v n w h) (aI xt+1) ft xt _ false w12 (by omega) (Hrt9.out.low hb912 (by omega)) (by omega) hI12
          have k0:=(HBt9.out.low hb912).cells.1;have k1:=(HBt9.out.low hb912).cells.2.1;obtain⟨fr,hfr⟩:∃b,aH1 m1 (.mk ft xt)=b:=⟨_,rfl⟩;have hfr2:fE (kO m1) false (.mk ft xt)=fr:=hfr;rw[hfr2]at hea;have hm9:=Hm8.out;rw[hfr]at hm9;have Hm9:=Lh hm9;have Hea:=Lh hea;have Hb912:=Lh hb912;clear hbx12 hxf12 hb911 hb912 hxp12 hmo hml hI12 hea hfr hfr2 hm9 q0 y0 y1 y2 y3 hcq hz10;go_upto_region 19 with(
           go_at_call 60
           refine Hea.out.mono ?_;rintro e w13 ⟨rfl,hI13,hup13⟩;have HI13:=Lh hI13;have Hup13:=Lh hup13;clear hI13 hup13)
          clear k0 k1;have hz13:=Hup13.out.size;have hb913:Below w9.heap.size w9 w13:=Hb912.out.trans (Hup13.out.toLow (by have:=Hz10.out;omega) (by have:=Hz10.out;rintro k rfl;omega));have Hb913:=Lh hb913;clear hb913;have hz10:w10.heap.size=w9.heap.size+3:=Hz10.out;refine rg 19 (λ_ w'=>Below w13.heap.size w13 w') ?_;intro wd hwd hbd;refine⟨?_,λhS=>?_⟩
          . exact hwd ▸ hbd
          refine ta 0 (.slice (some ⟨mb,mo,none⟩) d.length cm) hS λhS=>?_
          refine ta 1 (.pointer (some ⟨w.heap.size,2,none⟩)) hS λhS=>?_
          refine tk 2 (.slice (some ⟨a2,o2,none⟩) 2 c2) hS ?_ λhS=>?_
          . intro w' L hn hw;have hw9:Below w9.heap.size w9 w':=Hb913.out.trans (hw.mono (by omega));obtain⟨q0,q1,q2,q3,q4,q5,q6⟩:=Hx9.out w' hw9;simp[execOp,go_sem,q0]
          refine ta 3 (.pointer (some ⟨a2,o2+1,none⟩)) hS λhS=>?_
          refine tk 4 (.int .i64 (j:Nat)) hS ?_ λhS=>?_
          . intro w' L hn hw;have hw9:Below w9.heap.size w9 w':=Hb913.out.trans (hw.mono (by omega));obtain⟨q0,q1,q2,q3,q4,q5,q6⟩:=Hx9.out w' hw9;simp[execOp,go_sem,q4]
          refine ta 5 (.pointer (some ⟨w.heap.size,3,none⟩)) hS λhS=>?_
          refine tk 6 (.slice (some ⟨a3,o3,none⟩) 2 c3) hS ?_ λhS=>?_
          . intro w' L hn hw;have hw9:Below w9.heap.size w9 w':=Hb913.out.trans (hw.mono (by omega));obtain⟨q0,q1,q2,q3,q4,q5,q6⟩:=Hx9.out w' hw9;simp[execOp,go_sem,q1]
          refine ta 7 (.pointer (some ⟨a3,o3+1,none⟩)) hS λhS=>?_
          refine tk 8 (.bool r1) hS ?_ λhS=>?_
          . intro w' L hn hw;have hw9:Below w9.heap.size w9 w':=Hb913.out.trans (hw.mono (by omega));obtain⟨q0,q1,q2,q3,q4,q5,q6⟩:=Hx9.out w' hw9;simp[execOp,go_sem,q6]
          refine ta 9 (.pointer (some ⟨w.heap.size,4,none⟩)) hS λhS=>?_
          refine tk 10 (v4) hS ?_ λhS=>?_
          . intro w' L hn hw;have hw9:Below w9.heap.size w9 w':=Hb913.out.trans (hw.mono (by omega));obtain⟨q0,q1,q2,q3,q4,q5,q6⟩:=Hx9.out w' hw9;simp[execOp,go_sem,q2]
          refine tk 11 (.pointer (some ⟨w9.heap.size+1,0,none⟩)) hS ?_ λhS=>?_
          . intro w' L hn hw;have z5:=(HI13.out.2.1.low hw).cell;simp[execOp,go_sem,z5]
          refine tk 12 (.agg #[.int .i64 ft,.slice At xt.length ct]) hS ?_ λhS=>?_
          . intro w' L hn hw;have hw9:Below w9.heap.size w9 w':=Hb913.out.trans (hw.mono (by omega));obtain⟨z2,z3,-⟩:=(HBt9.out.low hw9).cells;simp[execOp,go_sem,z2,z3]
          refine tk 15 (.bool fr) hS ?_ λhS=>?_
          . intro w' L hn hw;have z4:=(HI13.out.1.low hw).cell;simp[execOp,go_sem,z4]
          refine ta 16 (.bool (!fr)) hS λhS=>?_
          refine so 13 ?_;have hwdd:wd.heap.size=w13.heap.size:=(by rw[hwd]);have hbd13:Below w13.heap.size w13 wd:=hwd ▸ hbd;have hbd9:Below w9.heap.size w9 wd:=Hb913.out.trans (hbd13.mono (by omega));have hId:=(iG.ok (B:=w4.heap.size) (bm:=w9.heap.size+1) (gm:=w9.heap.size) (bp:=w9.heap.size+1+1) (bf:=w11.heap.size) (m:=m1) (by omega) (by omega)).low fr w13 wd HI13.out hbd13;have hc13:=aH8 w4.heap.size (w9.heap.size+1) w9.heap.size (by omega) ft xt _ m1 wd (by omega) ((Hrt9.out.low hbd9 (by omega)).more (by omega)) hId.2.2.1;obtain⟨tp,htp⟩:∃t,cX m1.get (.mk ft xt)=t:=⟨_,rfl⟩;rw[htp]at hc13;refine aG ?_ hc13 ?_
          . simp[execOp,resolve,invoke,go_sem]
          rintro e w14 ⟨Ap,cp,rfl,hrp14,hb14⟩;refine⟨_,rfl,?_⟩;have hz14:=hb14.size;have hbd14:Below w9.heap.size w9 w14:=hbd9.trans (hb14.mono (by omega));refine gS ?_ λhS=>?_
          . exact hS.trans (hb14.mono hS.size)
          refine so 14 ?_;have hc14:=nC (cW d) j r1 s.pos tp.fn tp.args _ v4 _ (λ_=>True) w4.heap.size w14 (((Hrdm9.out.low hbd14 (by omega)).rdP (by omega)).more (λ_ _ _=>trivial)) (hrp14.more (λ_ _ _=>trivial)) (Hpos9.out.low hbd14 (by omega)) (by omega) hjm (by omega)
           (by rw[Hy.out,Hsl.out];simp only[Tm.args];omega) (by rw[Hy.out,Hsl.out,Hatp.out];simp)
          rw[Hy.out]at hc14;refine aG ?_ hc14 ?_
          . simp[execOp,resolve,invoke,go_sem]
          rintro e w15 ⟨v179,rfl,hown15,hb15⟩;refine⟨_,rfl,?_⟩;refine gS ?_ λhS=>?_
          . exact hS.trans (hb15.mono hS.size)
          refine ta 17 (v179) hS λhS=>?_
          refine ta 18 (.bool (!fr)) hS λhS=>?_
          refine dn ?_;have hfin:Below w.heap.size w w15:=Hlow9.out.trans ((Hb913.out.trans (hS.mono (by omega))).mono (by have:=Hlow9.out.size;omega));have Hfin:=Lh hfin;have Hown15:=Lh hown15;have Htp:=Lh htp;clear hS hfin hown15 hrp14 hc14 hc13 hId hb14 hb15 htp;go_wp2_with fail;refine bodyPost_ret (v:=.tuple #[v179,.bool (!fr)]) (by simp[results,Try.results50,go_sem]) rfl ?_;rw[Hm9.out];cases fr with
          | true=>exact⟨Hfin.out,v179,rfl,λc h=>by cases h⟩
          | false=>
           refine⟨Hfin.out,v179,rfl,λc' h=>?_⟩;obtain rfl:=Option.some.inj h;rw[Htp.out];have e:eD (cW d) j ⟨n3,.mk f3 ys3,.mk f4 ys4⟩ r1 s.pos tp=eD (cW d) j ⟨n3,.mk f3 ys3,.mk f4 ys4⟩ r1 s.pos (.mk tp.fn tp.args):=(by cases tp;rfl);rw[e];exact(Hown15.out.rd (by unfold eD;rw[List.length_map,List.length_set];omega)).rd'
       have hcq:¬((c.length:Int)=1):=(by omega);have Hno:=Lh (show dR s c d=none by rw[Hm6.out,if_pos hc1]);clear hz3 hc1;go_wp2_with fail;refine bodyPost_ret (v:=.tuple #[.slice none 0 0,.bool false]) (by simp[results,Try.results50,go_sem]) rfl ?_;rw[Hno.out];exact⟨(Hlow9.out.trans (HB10.out.mono (by have:=Hlow9.out.size;omega))),_,rfl,λc h=>by cases h⟩
def ClV (w:World)(B:Nat)(x:Cl)(v:Value):Prop:=∃A c,v=.slice A x.length c/\Rd w B (aT x) (.slice A x.length c)
theorem qV (bx:Array Value)(p:Nat->Bool)(xs:List Cl)(v:Value)(B:Nat)(w:World)(hr:Rd w B (eY xs) v)(hB:B<=w.heap.size)
 (hclo:∀k (hk:k<xs.length) w1 ev,Below w.heap.size w w1->ClV w1 B xs[k] ev->Calls Try.prog 48 (#[ev]++bx) w1 (aP (p k) w1)):
 Calls Try.prog 62 #[v,.func (.func 48) #[] bx] w (pK p xs.length w):=by
 obtain⟨A,c,rfl,hc,hn,hm⟩:=Rd.row_form hr;have H3:=Lh hr;have Hclo:=Lh hclo;clear hr hclo;go_enter Try.func62,Try.ntmps62;go_wp2_with fail;go_loopw [8] (λi wr=>∃k:Nat,k<=xs.length/\i=.int .i64 k/\(∀j,j<k->p j=false)/\Below w.heap.size w wr) (λi _=>xs.length-(intOf i).toNat)
 case atStart=>exact⟨0,Nat.zero_le _,rfl,λj hj=>by omega,Below.refl _ _⟩
 obtain⟨k,hk,rfl,hall,hbel⟩:=hrel;have Hall:=Lh hall;have Hbel:=Lh hbel;have hzr:=hbel.size;clear hall hbel;by_cases hlt:k<xs.length
 ·
  obtain⟨ab,off,A1,c1,rfl,hb,k0,hr1⟩:=(H3.out.low Hbel.out hB).cl_at hlt;have hcl:=Hclo.out k hlt wr (.slice A1 xs[k].length c1) Hbel.out ⟨A1,c1,rfl,hr1⟩;have Hcl:=Lh hcl;clear hr1 hcl;cases hp:p k with
  | true=>
   rw[hp]at Hcl;go_wp2_with (
    go_at_call 48
    refine Hcl.out.mono ?_;rintro e w1 ⟨rfl,hb1⟩)
   go_ret;exact⟨k,rfl,Hbel.out.trans (hb1.mono hzr),.inr ⟨k,hlt,rfl,eB hlt hp⟩⟩
  | false=>
   rw[hp]at Hcl;have Hp:=Lh hp;clear hp;go_wp2_with (
    go_at_call 48
    refine Hcl.out.mono ?_;rintro e w1 ⟨rfl,hb1⟩)
   go_roundw
   case rel=>
    refine⟨k+1,by omega,by go_num,λj hj=>?_,Hbel.out.trans (hb1.mono hzr)⟩;by_cases hjk:j=k
    . subst hjk;exact Hp.out
    exact Hall.out j (by omega)
   case measure=>simp[intOf];omega
 . go_wp2_with fail;go_ret;exact⟨-1,rfl,Hbel.out,.inl ⟨rfl,iJ λj hj=>Hall.out j (by omega)⟩⟩
theorem vB (bx:Array Value)(p:Nat->Bool)(xs:List Cl)(v:Value)(B:Nat)(w:World)(hr:Rd w B (eY xs) v)(hB:B<=w.heap.size)
 (hclo:∀k (hk:k<xs.length) w1 ev,Below w.heap.size w w1->ClV w1 B xs[k] ev->Calls Try.prog 48 (#[ev]++bx) w1 (aP (p k) w1)):
 Calls Try.prog 47 #[v,.func (.func 48) #[] bx] w (aP ((List.range xs.length).any p) w):=by
 have Hclo:=Lh hclo;have H3:=Lh hr;clear hclo hr;go_enter Try.func47,Try.ntmps47;go_wp2_with (
  go_at_call 62
  refine(qV bx p xs v B w H3.out hB Hclo.out).mono ?_;rintro e w1 ⟨i,rfl,hb1,hc1⟩)
 rcases hc1 with⟨rfl,h⟩ | ⟨k,hk,rfl,h⟩
 . go_ret;exact⟨by rw[h];rfl,hb1⟩
 go_ret;refine⟨?_,hb1⟩;rw[h];show Ending.returned (.bool (decide ((0:Int)<=(k:Int))))=_
 rw[decide_eq_true (by omega)]
theorem yV (x:Cl)(ev:Value)(B:Nat)(w:World)(hv:ClV w B x ev)(hz:aR x<=10000000000)(hB:B<=w.heap.size):
 Calls Try.prog 48 (#[ev]++ #[]) w (aP (!eK x) w):=by
 obtain⟨A,c,rfl,hr⟩:=hv;have hf:=mL x _ B w hz hr hB;have Hf:=Lh hf;clear hf hr;go_enter Try.func48,Try.ntmps48;go_wp2_with (
  go_at_call 33
  refine Hf.out.mono ?_;rintro e w1 ⟨rfl,hb1⟩)
 go_ret;exact⟨rfl,hb1⟩
theorem sF (xs:List Cl)(v:Value)(B:Nat)(w:World)(hr:Rd w B (eY xs) v)(hz:∀x∈xs,aR x<=10000000000)(hB:B<=w.heap.size):
 Calls Try.prog 47 #[v,.func (.func 48) #[] #[]] w (aP ((List.range xs.length).any λk=> !eK (xs[k]?.getD [])) w):=
 vB #[] _ xs v B w hr hB λk hk w1 ev hb hv=>by
  have:=yV xs[k] ev B w1 hv (hz _ (List.getElem_mem hk)) (by have:=hb.size;omega);rw[List.getElem?_eq_getElem hk];exact this
mutual
def oG:Tm->Bool
 | .mk f xs=>decide (-9223372036854775808<=f)&&lF xs
def lF:List Tm->Bool
 | []=>true
 | x::xs=>oG x&&lF xs
end
def kX (x:Lt):Bool:=oG x.l&&oG x.r
mutual
theorem zX:∀(t:Tm) (s:Bool),oG t=true->fE eC s t=true->s=true/\eV t=true
 | .mk f xs,s,hr,h=>by
  rw[oG,Bool.and_eq_true,decide_eq_true_eq]at hr;rw[fE]at h;by_cases hf:f<0
  . rw[if_pos hf]at h;obtain⟨h1,h2⟩:=qC xs _ hr.2 h;unfold eC at h1;simp only[Bool.and_eq_true,decide_eq_true_eq]at h1;have hw:wrap64 (-1-f)= -1-f:=(by unfold wrap64;omega);rw[hw]at h1;refine⟨h1.1.1,?_⟩;rw[eV,Bool.and_eq_true,decide_eq_true_eq];exact⟨by omega,h2⟩
  rw[if_neg hf]at h;obtain⟨h1,h2⟩:=qC xs _ hr.2 h;refine⟨h1,?_⟩;rw[eV,Bool.and_eq_true,decide_eq_true_eq];exact⟨by omega,h2⟩
theorem qC:∀(xs:List Tm) (s:Bool),lF xs=true->cR eC s xs=true->s=true/\iL xs=true
 | [],s,_,h=>by rw[cR]at h;exact⟨h,by rw[iL]⟩
 | x::xs,s,hr,h=>by
  rw[lF,Bool.and_eq_true]at hr;rw[cR]at h;obtain⟨h1,h2⟩:=qC xs _ hr.2 h;obtain⟨h3,h4⟩:=zX x s hr.1 h1;exact⟨h3,by rw[iL,h4,h2];rfl⟩
end
theorem qE {t:Tm} (hr:oG t=true)(h:mO t=true):aK t<=300/\dF t<=30/\eV t=true:=by
 unfold mO at h;obtain⟨h1,h2⟩:=zX t _ hr h;simp only[Bool.and_eq_true,decide_eq_true_eq]at h1;exact⟨h1.1,h1.2,h2⟩
mutual
theorem vG:∀t:Tm,eV t=true->pD t=true
 | .mk f xs,h=>by
  rw[eV,Bool.and_eq_true,decide_eq_true_eq]at h;rw[pD,xH xs h.2,Bool.and_true,decide_eq_true_eq];omega
theorem xH:∀xs:List Tm,iL xs=true->oS xs=true
 | [],_=>by rw[oS]
 | x::xs,h=>by
  rw[iL,Bool.and_eq_true]at h;rw[oS,vG x h.1,xH xs h.2];rfl
end
mutual
theorem tL:∀t:Tm,aK (gT t)=aK t
 | .mk f xs=>by rw[gT,aK,aK,qW xs]
theorem qW:∀xs:List Tm,aI (bX xs)=aI xs
 | []=>by rw[bX]
 | x::xs=>by rw[bX,aI,aI,tL x,qW xs]
end
theorem rI (n:Nat):∀c:Cl,(∀x∈c,aK x.l<=n/\aK x.r<=n)->aR c<=c.length*(2*n)
 | [],_=>by simp[aR]
 | x::c,h=>by
  have h1:=rI n c (λy hy=>h y (List.mem_cons_of_mem _ hy));have h2:=h x (List.mem_cons_self ..);unfold aR at h1 ⊢;simp only[List.map_cons,List.sum_cons,List.length_cons,dN];rw[Nat.add_mul];omega
structure FairC (c:Cl):Prop where
 len:c.length<=16
 sz:∀x∈c,aK x.l<=300/\aK x.r<=300
 pat:∀x∈c,eV x.l=true/\eV x.r=true
 low:∀x∈c,aD6 x=true
 szm:∀x∈cW c,aK x.l<=300/\aK x.r<=300
 zc:aR c<=1000000
 zm:aR (cW c)<=1000000
theorem qA {c:Cl} (hr:∀x∈c,kX x=true)(h:eK c=true):FairC c:=by
 unfold eK at h;simp only[Bool.and_eq_true,decide_eq_true_eq,Bool.not_eq_true']at h;obtain⟨hl,ha⟩:=h;have hf:∀x∈c,jD x=true:=λx hx=>by
  obtain⟨k,hk,rfl⟩:=List.mem_iff_getElem.1 hx;have:=List.any_eq_false.1 ha k (List.mem_range.2 hk);unfold sS at this;rw[List.getElem?_eq_getElem hk]at this;simpa using this
 have hx:∀x∈c,(aK x.l<=300/\eV x.l=true)/\(aK x.r<=300/\eV x.r=true):=λx hx=>by
  have h1:=hf x hx;have h2:=hr x hx;unfold jD at h1;unfold kX at h2;rw[Bool.and_eq_true]at h1 h2;have a:=qE h2.1 h1.1;have b:=qE h2.2 h1.2;exact⟨⟨a.1,a.2.2⟩,⟨b.1,b.2.2⟩⟩
 have hsz:∀x∈c,aK x.l<=300/\aK x.r<=300:=λx h=>⟨(hx x h).1.1,(hx x h).2.1⟩
 have hszm:∀x∈cW c,aK x.l<=300/\aK x.r<=300:=λx h=>by
  unfold cW at h;obtain⟨y,hy,rfl⟩:=List.mem_map.1 h;unfold aH6;simp only[tL];exact hsz y hy
 have hz:=rI 300 c hsz;have hzm:=rI 300 (cW c) hszm;have hlm:(cW c).length=c.length:=by unfold cW;rw[List.length_map]
 refine⟨hl,hsz,λx h=>⟨(hx x h).1.2,(hx x h).2.2⟩,λx h=>?_,hszm,by omega,by rw[hlm]at hzm;omega⟩;unfold aD6;rw[vG _ (hx x h).1.2,vG _ (hx x h).2.2];rfl
def jE (ps:List Sp)(s:Sp):List Cl:=s.parents.map λn=>(ps[n.toNat]?.map Sp.clause).getD []
noncomputable def qM (s:Sp):List Cl->Option Cl
 | [c]=>bA s c
 | _=>none
noncomputable def qN (s:Sp):List Cl->Option Cl
 | [c,d]=>dR s c d
 | _=>none
def mU (s:Sp):List Cl->Option Cl
 | [c,d]=>iK s c d
 | _=>none
noncomputable def qL (s:Sp)(l:List Cl):Option Cl:=
 if l.any (λc=> !eK c)=true then none
 else if s.rule=2\/s.rule=3\/s.rule=6\/s.rule=7 then qM s l
 else if s.rule=4\/s.rule=5 then qN s l
 else if s.rule=8 then mU s l
 else none
noncomputable def cF (inp:List Cl)(ps:List Sp)(s:Sp):Option Cl:=
 if s.rule=1 then
  (if aY s 0 1 0 false=false\/kA s 0<0\/(inp.length:Int)<=kA s 0 then none else inp[li s 0]?)
 else qL s (jE ps s)
noncomputable def dO (inp:List Cl)(ps:List Sp)(n:Int):Bool:=
 decide (0<=n)&&decide (n<ps.length)&&
  match ps[n.toNat]? with
  | none=>false
  | some s=>eK s.clause&& !(s.parents.any λk=>decide (k<0) || decide (n<=k))&&
   match cF inp ps s with
   | none=>false
   | some c=>dW c s.clause
end Go.Proofs.Ytiaoabfndnidiaa