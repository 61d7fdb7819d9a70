/-
 Part 13 of the proof over the checker:walks and plain laws.
-/
import Derived.Test.YtiaoabfndnidiaaML
set_option maxRecDepth 100000
set_option maxHeartbeats 8000000
set_option linter.unusedSimpArgs false
set_option linter.unusedVariables false
namespace Go.Proofs.Ytiaoabfndnidiaa
open Go.RowKit
theorem aA5 {sig:List Sy} {f:Int} {xs:List Tm} (h:fL sig (.mk f xs)=true):(f<0/\prB sig f=false)\/∃n:Nat,f=(n:Int)/\∃hn:n<sig.length,prB sig f=sig[n].pr:=by
 by_cases hf:f<0
 . refine .inl ⟨hf,?_⟩;unfold prB;rw[decide_eq_false (by omega),Bool.false_and]
 obtain⟨n,rfl⟩:∃n:Nat,f=(n:Int):=⟨f.toNat,by omega⟩;rw[fL,if_neg hf,Bool.and_eq_true,decide_eq_true_eq]at h;have h2:=h.1;cases e:sig[(n:Int).toNat]? with
 | none=>rw[e]at h2;cases h2
 | some s=>
  have e:sig[n]? =some s:=e;obtain⟨hk,hs⟩:=List.getElem?_eq_some_iff.1 e;refine .inr ⟨n,rfl,hk,?_⟩;unfold prB;rw[decide_eq_true (by omega),Bool.true_and,show (n:Int).toNat=n from rfl,e,hs];rfl
theorem wV (sig:List Sy)(x:Lt)(v vs:Value)(B:Nat)(w:World)(hv:LtV w B x v)(hrt:Rd w B (fX sig) vs)(hB:B<=w.heap.size):
 Calls Try.prog 38 #[.agg #[vs],v] w (aP (lS sig x) w):=by
 obtain⟨n0,⟨f1,ys1⟩,⟨f2,ys2⟩⟩:=x;obtain⟨A1,c1,A2,c2,rfl,h1,h2⟩:=hv;simp only[Tm.fn,Tm.args]at h1 h2 ⊢;obtain⟨As,cs,rfl,hsc,hsn,hsm⟩:=Rd.row_form (show Rd w B (.sl 3 (sig.map fZ)) vs from hrt);obtain⟨b1,hb1⟩:∃b,fL sig (.mk f1 ys1)=b:=⟨_,rfl⟩;obtain⟨c1',hc1⟩:∃b,fL sig (.mk f2 ys2)=b:=⟨_,rfl⟩;have he:lS sig ⟨n0,.mk f1 ys1,.mk f2 ys2⟩=(b1&&c1'&&(prB sig f1==prB sig f2)):=by unfold lS;rw[hb1,hc1];rfl
 have hf1:=fun(w':World) (hb:Below w.heap.size w w')=>wL sig (aI ys1+1) f1 ys1 (.slice A1 ys1.length c1) (.slice As sig.length cs) B w' (by omega) (h1.low hb hB) (hrt.low hb hB) (by have:=hb.size;omega)
 have hf2:=fun(w':World) (hb:Below w.heap.size w w')=>wL sig (aI ys2+1) f2 ys2 (.slice A2 ys2.length c2) (.slice As sig.length cs) B w' (by omega) (h2.low hb hB) (hrt.low hb hB) (by have:=hb.size;omega)
 rw[hb1]at hf1;rw[hc1]at hf2;have Hf1:=Lh hf1;have Hf2:=Lh hf2;have HT:=Lh hrt;clear h1 h2 hrt hf1 hf2;cases b1 with
 | false=>
  have He:=Lh he;clear he hb1 hc1;go_enter Try.func38,Try.ntmps38;go_upto_region 1 with fail
  obtain⟨hx1,hx2,hB2,hz2⟩:=aO w (.cells #[.slice As sig.length cs] 24) (.cells #[.bool n0,.int .i64 f1,.slice A1 ys1.length c1,.int .i64 f2,.slice A2 ys2.length c2] 53);have hx1:aU w.heap.size 24 (.slice As sig.length cs) _:=hx1;have hx2:eT (w.heap.size+1) 53 (.bool n0) (.int .i64 f1) (.slice A1 ys1.length c1) (.int .i64 f2) (.slice A2 ys2.length c2) _:=hx2;generalize (w.alloc (.cells #[.slice As sig.length cs] 24)).alloc (.cells #[.bool n0,.int .i64 f1,.slice A1 ys1.length c1,.int .i64 f2,.slice A2 ys2.length c2] 53)=w1 at hx1 hx2 hB2 hz2 ⊢;have HX1:=Lh hx1;have HX2:=Lh hx2;have HB2:=Lh hB2;have x10:=hx1.cell;obtain⟨x0,x1,x2,x3,x4⟩:=hx2.cells;clear hx1 hx2 hB2;go_wp2_with fail;refine(Hf1.out w1 HB2.out).mono ?_;rintro e w2 ⟨rfl,hb2⟩;have x10:=(HX1.out.low hb2).cell;obtain⟨x0,x1,x2,x3,x4⟩:=(HX2.out.low' hb2).cells;have Hb2:=Lh hb2;have hz3:=hb2.size;have Hb02:=Lh (HB2.out.trans (hb2.mono (by omega)));clear hb2;go_wp2_with fail;go_ret;exact⟨by rw[He.out];rfl,HB2.out.trans (Hb2.out.mono (by omega))⟩
 | true=>
  cases c1' with
  | false=>
   have He:=Lh he;clear he hb1 hc1;go_enter Try.func38,Try.ntmps38;go_upto_region 1 with fail
   obtain⟨hx1,hx2,hB2,hz2⟩:=aO w (.cells #[.slice As sig.length cs] 24) (.cells #[.bool n0,.int .i64 f1,.slice A1 ys1.length c1,.int .i64 f2,.slice A2 ys2.length c2] 53);have hx1:aU w.heap.size 24 (.slice As sig.length cs) _:=hx1;have hx2:eT (w.heap.size+1) 53 (.bool n0) (.int .i64 f1) (.slice A1 ys1.length c1) (.int .i64 f2) (.slice A2 ys2.length c2) _:=hx2;generalize (w.alloc (.cells #[.slice As sig.length cs] 24)).alloc (.cells #[.bool n0,.int .i64 f1,.slice A1 ys1.length c1,.int .i64 f2,.slice A2 ys2.length c2] 53)=w1 at hx1 hx2 hB2 hz2 ⊢;have HX1:=Lh hx1;have HX2:=Lh hx2;have HB2:=Lh hB2;have x10:=hx1.cell;obtain⟨x0,x1,x2,x3,x4⟩:=hx2.cells;clear hx1 hx2 hB2;go_wp2_with fail;refine(Hf1.out w1 HB2.out).mono ?_;rintro e w2 ⟨rfl,hb2⟩;have x10:=(HX1.out.low hb2).cell;obtain⟨x0,x1,x2,x3,x4⟩:=(HX2.out.low' hb2).cells;have Hb2:=Lh hb2;have hz3:=hb2.size;have Hb02:=Lh (HB2.out.trans (hb2.mono (by omega)));clear hb2;go_wp2_with fail;refine(Hf2.out w2 Hb02.out).mono ?_;rintro e w3 ⟨rfl,hb3⟩;have x10:=((HX1.out.low Hb2.out).low hb3).cell;obtain⟨x0,x1,x2,x3,x4⟩:=((HX2.out.low' Hb2.out).low' hb3).cells;have hb4:Below w.heap.size w w3:=Hb02.out.trans (hb3.mono (by omega));have Hb3:=Lh hb4;skip
   clear hb3 hb4;go_wp2_with fail;go_ret;exact⟨by rw[He.out];rfl,Hb3.out⟩
  | true=>
   rcases aA5 hb1 with⟨hn1,hp1⟩ | ⟨m1,rfl,hm1,hp1⟩
   . have a1:¬0<=f1:=(by omega);rcases aA5 hc1 with⟨hn2,hp2⟩ | ⟨m2,rfl,hm2,hp2⟩
     . rw[hp1,hp2]at he;have a2:¬0<=f2:=(by omega);have He:=Lh he;clear he hb1 hc1 hp1 hp2;go_enter Try.func38,Try.ntmps38;go_upto_region 1 with fail
       obtain⟨hx1,hx2,hB2,hz2⟩:=aO w (.cells #[.slice As sig.length cs] 24) (.cells #[.bool n0,.int .i64 f1,.slice A1 ys1.length c1,.int .i64 f2,.slice A2 ys2.length c2] 53);have hx1:aU w.heap.size 24 (.slice As sig.length cs) _:=hx1;have hx2:eT (w.heap.size+1) 53 (.bool n0) (.int .i64 f1) (.slice A1 ys1.length c1) (.int .i64 f2) (.slice A2 ys2.length c2) _:=hx2;generalize (w.alloc (.cells #[.slice As sig.length cs] 24)).alloc (.cells #[.bool n0,.int .i64 f1,.slice A1 ys1.length c1,.int .i64 f2,.slice A2 ys2.length c2] 53)=w1 at hx1 hx2 hB2 hz2 ⊢;have HX1:=Lh hx1;have HX2:=Lh hx2;have HB2:=Lh hB2;have x10:=hx1.cell;obtain⟨x0,x1,x2,x3,x4⟩:=hx2.cells;clear hx1 hx2 hB2;go_wp2_with fail;refine(Hf1.out w1 HB2.out).mono ?_;rintro e w2 ⟨rfl,hb2⟩;have x10:=(HX1.out.low hb2).cell;obtain⟨x0,x1,x2,x3,x4⟩:=(HX2.out.low' hb2).cells;have Hb2:=Lh hb2;have hz3:=hb2.size;have Hb02:=Lh (HB2.out.trans (hb2.mono (by omega)));clear hb2;go_wp2_with fail;refine(Hf2.out w2 Hb02.out).mono ?_;rintro e w3 ⟨rfl,hb3⟩;have x10:=((HX1.out.low Hb2.out).low hb3).cell;obtain⟨x0,x1,x2,x3,x4⟩:=((HX2.out.low' Hb2.out).low' hb3).cells;have hb4:Below w.heap.size w w3:=Hb02.out.trans (hb3.mono (by omega));have Hb3:=Lh hb4;skip
       clear hb3 hb4;go_wp2_with fail;go_ret;exact⟨by rw[He.out];rfl,Hb3.out⟩
     obtain⟨p2,hq2⟩:∃b,sig[m2].pr=b:=⟨_,rfl⟩;obtain⟨zb,zo,rfl,hzb,-,-,k2⟩:=HT.out.sy_at hm2;rw[hp1,hp2,hq2]at he;rw[hq2]at k2;have He:=Lh he;have K2:=Lh k2;have g1:¬((sig.length:Int)<=(m2:Int)):=(by omega);have g2:(m2:Int)<(sig.length:Int):=(by omega);clear he hb1 hc1 hp1 hp2 hq2 k2;go_enter Try.func38,Try.ntmps38;go_upto_region 1 with fail
     obtain⟨hx1,hx2,hB2,hz2⟩:=aO w (.cells #[.slice (some ⟨zb,zo,none⟩) sig.length cs] 24) (.cells #[.bool n0,.int .i64 f1,.slice A1 ys1.length c1,.int .i64 (m2:Nat),.slice A2 ys2.length c2] 53);have hx1:aU w.heap.size 24 (.slice (some ⟨zb,zo,none⟩) sig.length cs) _:=hx1;have hx2:eT (w.heap.size+1) 53 (.bool n0) (.int .i64 f1) (.slice A1 ys1.length c1) (.int .i64 (m2:Nat)) (.slice A2 ys2.length c2) _:=hx2;generalize (w.alloc (.cells #[.slice (some ⟨zb,zo,none⟩) sig.length cs] 24)).alloc (.cells #[.bool n0,.int .i64 f1,.slice A1 ys1.length c1,.int .i64 (m2:Nat),.slice A2 ys2.length c2] 53)=w1 at hx1 hx2 hB2 hz2 ⊢;have HX1:=Lh hx1;have HX2:=Lh hx2;have HB2:=Lh hB2;have x10:=hx1.cell;obtain⟨x0,x1,x2,x3,x4⟩:=hx2.cells;clear hx1 hx2 hB2;go_wp2_with fail;refine(Hf1.out w1 HB2.out).mono ?_;rintro e w2 ⟨rfl,hb2⟩;have x10:=(HX1.out.low hb2).cell;obtain⟨x0,x1,x2,x3,x4⟩:=(HX2.out.low' hb2).cells;have Hb2:=Lh hb2;have hz3:=hb2.size;have Hb02:=Lh (HB2.out.trans (hb2.mono (by omega)));clear hb2;go_wp2_with fail;refine(Hf2.out w2 Hb02.out).mono ?_;rintro e w3 ⟨rfl,hb3⟩;have x10:=((HX1.out.low Hb2.out).low hb3).cell;obtain⟨x0,x1,x2,x3,x4⟩:=((HX2.out.low' Hb2.out).low' hb3).cells;have hb4:Below w.heap.size w w3:=Hb02.out.trans (hb3.mono (by omega));have Hb3:=Lh hb4;have y2:=(hb4.cell (p:=⟨zb,zo+m2*3+2,none⟩) (show zb<w.heap.size by omega)).trans K2.out;clear hb3 hb4;go_wp2_with fail;go_ret;exact⟨by rw[He.out];cases p2 <;> rfl,Hb3.out⟩
   obtain⟨p1,hq1⟩:∃b,sig[m1].pr=b:=⟨_,rfl⟩;obtain⟨zb,zo,rfl,hzb,-,-,k1⟩:=HT.out.sy_at hm1;rw[hq1]at k1;have K1:=Lh k1;have g1:¬((sig.length:Int)<=(m1:Int)):=by omega
   have g2:(m1:Int)<(sig.length:Int):=by omega
   clear k1;rcases aA5 hc1 with⟨hn2,hp2⟩ | ⟨m2,rfl,hm2,hp2⟩
   . rw[hp1,hp2,hq1]at he;have a2:¬0<=f2:=(by omega);have He:=Lh he;clear he hb1 hc1 hp1 hp2 hq1;go_enter Try.func38,Try.ntmps38;go_upto_region 1 with fail
     obtain⟨hx1,hx2,hB2,hz2⟩:=aO w (.cells #[.slice (some ⟨zb,zo,none⟩) sig.length cs] 24) (.cells #[.bool n0,.int .i64 (m1:Nat),.slice A1 ys1.length c1,.int .i64 f2,.slice A2 ys2.length c2] 53);have hx1:aU w.heap.size 24 (.slice (some ⟨zb,zo,none⟩) sig.length cs) _:=hx1;have hx2:eT (w.heap.size+1) 53 (.bool n0) (.int .i64 (m1:Nat)) (.slice A1 ys1.length c1) (.int .i64 f2) (.slice A2 ys2.length c2) _:=hx2;generalize (w.alloc (.cells #[.slice (some ⟨zb,zo,none⟩) sig.length cs] 24)).alloc (.cells #[.bool n0,.int .i64 (m1:Nat),.slice A1 ys1.length c1,.int .i64 f2,.slice A2 ys2.length c2] 53)=w1 at hx1 hx2 hB2 hz2 ⊢;have HX1:=Lh hx1;have HX2:=Lh hx2;have HB2:=Lh hB2;have x10:=hx1.cell;obtain⟨x0,x1,x2,x3,x4⟩:=hx2.cells;clear hx1 hx2 hB2;go_wp2_with fail;refine(Hf1.out w1 HB2.out).mono ?_;rintro e w2 ⟨rfl,hb2⟩;have x10:=(HX1.out.low hb2).cell;obtain⟨x0,x1,x2,x3,x4⟩:=(HX2.out.low' hb2).cells;have Hb2:=Lh hb2;have hz3:=hb2.size;have Hb02:=Lh (HB2.out.trans (hb2.mono (by omega)));clear hb2;go_wp2_with fail;refine(Hf2.out w2 Hb02.out).mono ?_;rintro e w3 ⟨rfl,hb3⟩;have x10:=((HX1.out.low Hb2.out).low hb3).cell;obtain⟨x0,x1,x2,x3,x4⟩:=((HX2.out.low' Hb2.out).low' hb3).cells;have hb4:Below w.heap.size w w3:=Hb02.out.trans (hb3.mono (by omega));have Hb3:=Lh hb4;have y1:=(hb4.cell (p:=⟨zb,zo+m1*3+2,none⟩) (show zb<w.heap.size by omega)).trans K1.out;clear hb3 hb4;go_wp2_with fail;go_ret;exact⟨by rw[He.out];cases p1 <;> rfl,Hb3.out⟩
   obtain⟨p2,hq2⟩:∃b,sig[m2].pr=b:=⟨_,rfl⟩;obtain⟨zb',zo',hss,-,-,-,k2⟩:=HT.out.sy_at hm2;obtain⟨rfl,rfl⟩:zb=zb'/\zo=zo':=by cases hss;exact⟨rfl,rfl⟩
   rw[hp1,hp2,hq1,hq2]at he;rw[hq2]at k2;have He:=Lh he;have K2:=Lh k2;have g3:¬((sig.length:Int)<=(m2:Int)):=by omega
   have g4:(m2:Int)<(sig.length:Int):=by omega
   clear he hb1 hc1 hp1 hp2 hq2 hq1 k2 hss;go_enter Try.func38,Try.ntmps38;go_upto_region 1 with fail
   obtain⟨hx1,hx2,hB2,hz2⟩:=aO w (.cells #[.slice (some ⟨zb,zo,none⟩) sig.length cs] 24) (.cells #[.bool n0,.int .i64 (m1:Nat),.slice A1 ys1.length c1,.int .i64 (m2:Nat),.slice A2 ys2.length c2] 53);have hx1:aU w.heap.size 24 (.slice (some ⟨zb,zo,none⟩) sig.length cs) _:=hx1;have hx2:eT (w.heap.size+1) 53 (.bool n0) (.int .i64 (m1:Nat)) (.slice A1 ys1.length c1) (.int .i64 (m2:Nat)) (.slice A2 ys2.length c2) _:=hx2;generalize (w.alloc (.cells #[.slice (some ⟨zb,zo,none⟩) sig.length cs] 24)).alloc (.cells #[.bool n0,.int .i64 (m1:Nat),.slice A1 ys1.length c1,.int .i64 (m2:Nat),.slice A2 ys2.length c2] 53)=w1 at hx1 hx2 hB2 hz2 ⊢;have HX1:=Lh hx1;have HX2:=Lh hx2;have HB2:=Lh hB2;have x10:=hx1.cell;obtain⟨x0,x1,x2,x3,x4⟩:=hx2.cells;clear hx1 hx2 hB2;go_wp2_with fail;refine(Hf1.out w1 HB2.out).mono ?_;rintro e w2 ⟨rfl,hb2⟩;have x10:=(HX1.out.low hb2).cell;obtain⟨x0,x1,x2,x3,x4⟩:=(HX2.out.low' hb2).cells;have Hb2:=Lh hb2;have hz3:=hb2.size;have Hb02:=Lh (HB2.out.trans (hb2.mono (by omega)));clear hb2;go_wp2_with fail;refine(Hf2.out w2 Hb02.out).mono ?_;rintro e w3 ⟨rfl,hb3⟩;have x10:=((HX1.out.low Hb2.out).low hb3).cell;obtain⟨x0,x1,x2,x3,x4⟩:=((HX2.out.low' Hb2.out).low' hb3).cells;have hb4:Below w.heap.size w w3:=Hb02.out.trans (hb3.mono (by omega));have Hb3:=Lh hb4;(have y1:=(hb4.cell (p:=⟨zb,zo+m1*3+2,none⟩) (show zb<w.heap.size by omega)).trans K1.out;have y2:=(hb4.cell (p:=⟨zb,zo+m2*3+2,none⟩) (show zb<w.heap.size by omega)).trans K2.out)
   clear hb3 hb4;go_wp2_with fail;go_ret;exact⟨by rw[He.out];cases p1 <;> cases p2 <;> rfl,Hb3.out⟩
def nP (l:List Bool):List (List Value):=(l.map Value.bool).map λu=>[u]
theorem yH (l:List Bool):(nP l).length=l.length:=by simp[nP]
def dD (base g c:Nat)(l:List Bool)(w:World):Prop:=l.length=48/\Own w base 4 1 (.slice (some ⟨g,0,none⟩) 48 c) (nP l)
theorem dD.low {base g c:Nat} {l:List Bool} {w w':World} (h:dD base g c l w)(hb:Below w.heap.size w w'):dD base g c l w':=⟨h.1,h.2.low hb⟩
theorem dD.upd {base g c:Nat} {l:List Bool} {w w':World} {F:Nat->Prop} (h:dD base g c l w)(hb:Upd w w' F)(hF:¬F g):dD base g c l w':=
 ⟨h.1,h.2.upd hb λg' e=>by cases e;exact hF⟩
theorem dD.lt {base g c:Nat} {l:List Bool} {w:World} (h:dD base g c l w):base<=g/\g<w.heap.size:=h.2.lt g rfl
theorem dD.at_ {base g c j:Nat} {l:List Bool} {w:World} (h:dD base g c l w)(hj:j<l.length):w.cell? ⟨g,j,none⟩=some (.bool l[j])/\w.frozen? ⟨g,j,none⟩=false:=by
 obtain⟨g',hg,-,-,hc,hf⟩:=h.2.row_at (k:=j) (by rw[yH];exact hj) (by omega);injection hg with hg
 injection hg with hg _ _
 subst hg;have h1:=hc 0 (by omega);have h2:=hf 0 (by omega);simp only[Nat.mul_one,Nat.add_zero]at h1 h2;refine⟨h1.trans ?_,h2⟩;simp[nP]
theorem dD.set {base g c j:Nat} {l:List Bool} {w:World} (h:dD base g c l w):dD base g c (l.set j true) (w.setCell ⟨g,j,none⟩ (.bool true)):=by
 refine⟨by rw[List.length_set];exact h.1,?_⟩;have:=h.2.set1 (j:=j) (.bool true);unfold nP;rw[List.map_set];exact this
def aK6 (base g c:Nat)(l':List Bool)(w:World)(e:Ending)(w':World):Prop:=e=.returned (.tuple #[])/\dD base g c l' w'/\Upd w w' (λk=>k=g)
theorem nN (g c base:Nat)(D:Nat):∀(f:Int) (xs:List Tm) (v2:Value) (B:Nat) (w:World) (l:List Bool),aI xs<D->fM 48 (.mk f xs)=true->Rd w B (.sl 2 (aH xs)) v2->B<=base->base<=w.heap.size->
 dD base g c l w->Calls Try.prog 27 #[.agg #[.int .i64 f,v2],.slice (some ⟨g,0,none⟩) 48 c] w (aK6 base g c (gQ (.mk f xs) l) w):=by
 induction D with
 | zero=>intro f xs v2 B w l h;omega
 | succ D ih=>
 intro f xs v2 B w l hD hlow hr hBb hbw hown;obtain⟨A,c2,rfl,hc,hn,hm⟩:=hr.tm_form;obtain⟨hg0,hg1⟩:=hown.lt;have hl:=hown.1;have H3:=Lh hr;have HO:=Lh hown;have Hih:=Lh ih;have Hl:=Lh hl;clear hr hown ih hl;by_cases hf:f<0
 . rw[fM,if_pos hf]at hlow;simp only[Bool.and_eq_true,decide_eq_true_eq]at hlow;have hm2:gQ (.mk f xs) l=l.set (-1-f).toNat true:=by rw[gQ,if_pos hf]
   rw[hm2];clear hm2;obtain⟨j,rfl⟩:∃j:Nat,f= -1-(j:Int):=⟨(-1-f).toNat,by omega⟩;have hjt:(-1-(-1-(j:Int))).toNat=j:=by omega
   rw[hjt];have hjj: -1-(-1-(j:Int))=(j:Int):=by omega
   have hb2:¬((48:Int)<=(j:Int)):=by omega
   have hb3:(j:Int)<48:=by omega
   have hf': -1-(j:Int)<0:=hf;clear hjt;generalize hfj: -1-(j:Int)=f at*;clear hlow hfj hf';go_enter Try.func27,Try.ntmps27;go_upto_region 1 with fail
   have hb1:=aD w (.cells #[.int .i64 f,.slice A xs.length c2] 51);have hx1:aL w.heap.size 51 (.int .i64 f) (.slice A xs.length c2) (w.alloc (.cells #[.int .i64 f,.slice A xs.length c2] 51)):=heap_alloc_new w _;have hz1:(w.alloc (.cells #[.int .i64 f,.slice A xs.length c2] 51)).heap.size=w.heap.size+1:=by simp
   generalize w.alloc (.cells #[.int .i64 f,.slice A xs.length c2] 51)=w1 at hx1 hb1 hz1 ⊢;have HX1:=Lh hx1;have HB1:=Lh hb1;obtain⟨x10,x11,-⟩:=hx1.cells;clear hx1 hb1;obtain⟨q0,q1⟩:=(HO.out.low HB1.out).at_ (j:=j) (by rw[Hl.out];omega);go_wp2_with fail;go_end0
   exact⟨rfl,(HO.out.low HB1.out).set,(Upd.low HB1.out _).setCell _ _ (.inl rfl)⟩
 have hm2:gQ (.mk f xs) l=dG xs l:=by rw[gQ,if_neg hf]
 rw[hm2];clear hm2;rw[fM,if_neg hf,kP,List.all_eq_true]at hlow;have Hlow:=Lh hlow;clear hlow;go_enter Try.func27,Try.ntmps27;go_upto_region 1 with fail
 have hb1:=aD w (.cells #[.int .i64 f,.slice A xs.length c2] 51);have hx1:aL w.heap.size 51 (.int .i64 f) (.slice A xs.length c2) (w.alloc (.cells #[.int .i64 f,.slice A xs.length c2] 51)):=heap_alloc_new w _;have hz1:(w.alloc (.cells #[.int .i64 f,.slice A xs.length c2] 51)).heap.size=w.heap.size+1:=by simp
 generalize w.alloc (.cells #[.int .i64 f,.slice A xs.length c2] 51)=w1 at hx1 hb1 hz1 ⊢;have HX1:=Lh hx1;have HB1:=Lh hb1;obtain⟨x10,x11,-⟩:=hx1.cells;clear hx1 hb1;go_wp2_with fail;go_loopw [4] (λi wr=>∃k:Nat,k<=xs.length/\i=.int .i64 k/\dD base g c (dG (xs.take k) l) wr/\Upd w1 wr (λk=>k=g)) (λi _=>xs.length-(intOf i).toNat)
 case atStart=>exact⟨0,Nat.zero_le _,rfl,by rw[List.take_zero,dG];exact HO.out.low HB1.out,Upd.refl _ _⟩
 obtain⟨k,hk2,rfl,hmr,hup⟩:=hrel;have hzr:=hup.size;obtain⟨x10,x11,-⟩:=(HX1.out.upd hup (by omega)).cells;have Hmr:=Lh hmr;have Hup:=Lh hup;have hrd:=hup.keepRd (H3.out.low HB1.out (by omega)) (B:=B) (by omega) (λk e=>by omega);clear hmr hup;by_cases hlt:k<xs.length
 . obtain⟨ab,off,f',ys,A2,c3,rfl,hxk,hab,k0,k1,hrd2⟩:=hrd.tm_at hlt;have hs1:=aZ hlt;have hl1:=Hlow.out xs[k] (List.getElem_mem hlt);have hmk:=wY hlt l;rw[hxk]at hs1 hl1 hmk;simp only[aK]at hs1;have hcl:=Hih.out f' ys (.slice A2 ys.length c3) B wr _ (by omega) hl1 hrd2 hBb (by omega) Hmr.out;rw[<-hmk]at hcl;have Hcl:=Lh hcl;have hkk:¬((xs.length:Int)<=(k:Int)):=by omega
   clear hrd2 hrd hxk hl1 hmk hcl;go_wp2_with (
    go_at_call 27
    refine Hcl.out.mono ?_;rintro e w6 ⟨rfl,hm6,hu6⟩;have Hm6:=Lh hm6;have Hu6:=Lh hu6;clear hm6 hu6)
   go_roundw
   case rel=>exact⟨k+1,by omega,by go_num,Hm6.out,Hup.out.trans Hu6.out (λi e=>.inl e)⟩
   case measure=>simp[intOf];omega
 have e:xs.take k=xs:=List.take_of_length_le (by omega);rw[e]at Hmr;clear hrd;go_wp2_with fail;go_end0
 exact⟨rfl,Hmr.out,(Upd.low HB1.out _).trans Hup.out (λi e=>.inl e)⟩
theorem wX {t e:TypeId} {z:Value} {bytes:Nat} (w:World)(hu:Try.prog.underlying t=some (.slice e))(h:(Try.prog.info? e).map (λi=>(i.zero,i.size,i.bytes))=some (some z,1,bytes))(hb:bytes<=8)(h1:z.cells= #[z]):
 ∃w',(Instr.makeSlice t (.int .i64 48) (.int .i64 48)).run Try.prog w=.ok (.slice (some ⟨w.heap.size,0,none⟩) 48 48) w'/\Own w' w.heap.size e 1 (.slice (some ⟨w.heap.size,0,none⟩) 48 48) ((List.replicate 48 z).map λu=>[u])/\Below w.heap.size w w':=by
 cases hi:Try.prog.info? e with
 | none=>rw[hi]at h;cases h
 | some i=>
  rw[hi]at h;have h:(i.zero,i.size,i.bytes)=(some z,1,bytes):=Option.some.inj h;injection h with hz h
  injection h with hs hby
  obtain⟨w',g1,g2,g3⟩:=run_makeSlice_full (P:=Try.prog) w w.heap.size t e i z 1 hu hi hz hs .i64 .i64 48 (by decide) (by rw[hby];omega) (by decide) (Nat.le_refl _);refine⟨w',g1,⟨?_,by intro r hr;obtain⟨u',_,rfl⟩:=List.mem_map.1 hr;rfl⟩,?_⟩
  . have hfl:∀l:List Value,(l.map λu=>[u]).flatten=l:=λl=>by induction l with | nil=>rfl | cons a l ih=>simp[ih]
    rw[List.length_map,hfl,List.length_replicate];rw[h1,toList_madeCells_one]at g2;exact g2
  exact⟨(Upd.grown g3).os,(Upd.grown g3).tape,(Upd.grown g3).output,(Upd.grown g3).size,λk hk=>(Upd.grown g3).block k hk (λe=>by cases e)⟩
theorem qK (w:World):∃w',(Instr.makeSlice 42 (.int .i64 48) (.int .i64 48)).run Try.prog w=.ok (.slice (some ⟨w.heap.size,0,none⟩) 48 48) w'/\dD w.heap.size w.heap.size 48 (List.replicate 48 false) w'/\Below w.heap.size w w':=by
 obtain⟨w',h1,h2,h3⟩:=wX (z:=.bool false) (bytes:=1) w Try.underlying42 (by kernel_rfl) (by omega) rfl;exact⟨w',h1,⟨List.length_replicate,by unfold nP;rw[List.map_replicate];exact h2⟩,h3⟩
theorem vY (sig:List Sy)(ha:mC sig)(c:Cl)(v vs:Value)(B:Nat)(w:World)(hr:Rd w B (aT c) v)(hrt:Rd w B (fX sig) vs)(hB:B<=w.heap.size):
 Calls Try.prog 25 #[.agg #[vs],v] w (aP (mI sig c) w):=by
 obtain⟨Ac,cp,rfl,hc,hn,hm⟩:=Rd.cl_form hr;obtain⟨As,cs,rfl,hsc,hsn,hsm⟩:=Rd.row_form (show Rd w B (.sl 3 (sig.map fZ)) vs from hrt);have H3:=Lh hr;have HT:=Lh hrt;clear hr hrt;go_enter Try.func25,Try.ntmps25;go_upto_region 1 with fail
 have hb1:=aD w (.cells #[.slice As sig.length cs] 24);have hx1:aU w.heap.size 24 (.slice As sig.length cs) (w.alloc (.cells #[.slice As sig.length cs] 24)):=heap_alloc_new w _;have hz1:(w.alloc (.cells #[.slice As sig.length cs] 24)).heap.size=w.heap.size+1:=by simp
 generalize w.alloc (.cells #[.slice As sig.length cs] 24)=w1 at hx1 hb1 hz1 ⊢;obtain⟨w2,hmk,hm2,hb2⟩:=qK w1;have hz2:=hb2.size;have hg2:=hm2.lt;obtain⟨g,hg⟩:∃g,w1.heap.size=g:=⟨_,rfl⟩;rw[hg]at hmk hm2 hz2 hg2;have hx2:=hx1.low hb2;have hbw:Below w.heap.size w w2:=hb1.trans (hb2.mono (by omega));have HX1:=Lh hx2;have HB2:=Lh hbw;have HM2:=Lh hm2;have x10:=hx2.cell;clear hx1 hb1 hx2 hbw hm2 hb2;go_wp2_with fail;clear hmk;go_loopw [6] (λi wr=>∃k:Nat,k<=c.length/\i=.int .i64 k/\dD g g 48 (eF (c.take k) (List.replicate 48 false)) wr/\(∀j (h:j<c.length),j<k->lS sig c[j]=true)/\Upd w2 wr (λk=>k=g)) (λi _=>c.length-(intOf i).toNat)
 case atStart=>exact⟨0,Nat.zero_le _,rfl,by rw[List.take_zero,eF];exact HM2.out,λj _ h=>by omega,Upd.refl _ _⟩
 obtain⟨k,hk2,rfl,hmr,hall,hup⟩:=hrel;have hzr:=hup.size;have hx1r:=HX1.out.upd hup (by omega);have x10:=hx1r.cell;have Hmr:=Lh hmr;have Hup:=Lh hup;have Hall:=Lh hall;have hbr:Below w.heap.size w wr:=HB2.out.trans (hup.toLow (by omega) (λk e=>by omega));have Hbr:=Lh hbr;clear hmr hup hall hbr;by_cases hlt:k<c.length
 . obtain⟨ab,off,n0,f1,ys1,A1,c1,f2,ys2,A2,c2,rfl,hxk,hab,k0,k1,k2,k3,k4,hr1,hr2⟩:=(H3.out.low Hbr.out hB).lt_at hlt;obtain⟨bl,hbl⟩:∃b,lS sig c[k]=b:=⟨_,rfl⟩;have hcl:=fun(w':World) (hb:Below wr.heap.size wr w')=>wV sig c[k] (.agg #[.bool n0,.int .i64 f1,.slice A1 ys1.length c1,.int .i64 f2,.slice A2 ys2.length c2]) (.slice As sig.length cs) B w' (by rw[hxk];exact⟨A1,c1,A2,c2,rfl,hr1.low hb (by omega),hr2.low hb (by omega)⟩) (HT.out.low (Hbr.out.trans (hb.mono Hbr.out.size)) hB) (by have:=hb.size;omega)
   rw[hbl]at hcl;have Hcl:=Lh hcl;have Hbl:=Lh hbl;have Hxk:=Lh hxk;have HR1:=Lh hr1;have HR2:=Lh hr2;have K0:=Lh k0;have K1:=Lh k1;have K2:=Lh k2;have K3:=Lh k3;have K4:=Lh k4;have hkk:¬((c.length:Int)<=(k:Int)):=by omega
   clear hcl hbl hxk hr1 hr2 k0 k1 k2 k3 k4;cases bl with
   | false=>
    go_upto_region 5 with fail
    clear x10;refine rg 7 (λ_ w'=>Below wr.heap.size wr w') ?_;intro wd hwd hbd;refine⟨?_,λhS=>?_⟩
    . exact hwd ▸ hbd
    refine tk 0 (.agg #[.slice As sig.length cs]) hS ?_ λhS=>?_
    . intro w' L hn hw;have o1:=(hx1r.low hw).cell;simp[execOp,go_sem,o1]
    refine ta 1 (.slice (some ⟨ab,off,none⟩) c.length cp) hS λhS=>?_
    refine ta 2 (.int .i64 (k:Nat)) hS λhS=>?_
    refine tk 3 (.pointer (some ⟨ab,off+k*5,none⟩)) hS ?_ λhS=>?_
    . intros;simp[execOp,go_sem,hlt,hkk]
    refine tk 4 (.agg #[.bool n0,.int .i64 f1,.slice A1 ys1.length c1,.int .i64 f2,.slice A2 ys2.length c2]) hS ?_ λhS=>?_
    . intro w' L hn hw;have q0:=(hw.cell (p:=⟨ab,off+k*5,none⟩) (show ab<wr.heap.size by omega)).trans K0.out;have q1:=(hw.cell (p:=⟨ab,off+k*5+1,none⟩) (show ab<wr.heap.size by omega)).trans K1.out;have q2:=(hw.cell (p:=⟨ab,off+k*5+2,none⟩) (show ab<wr.heap.size by omega)).trans K2.out;have q3:=(hw.cell (p:=⟨ab,off+k*5+3,none⟩) (show ab<wr.heap.size by omega)).trans K3.out;have q4:=(hw.cell (p:=⟨ab,off+k*5+4,none⟩) (show ab<wr.heap.size by omega)).trans K4.out;simp[execOp,go_sem,q0,q1,q2,q3,q4]
    refine so 5 ?_;have hbd4:Below wr.heap.size wr wd:=hwd ▸ hbd;refine aG ?_ (Hcl.out wd hbd4) ?_
    . simp[execOp,resolve,invoke,go_sem]
    rintro e w6 ⟨rfl,hb6⟩;refine⟨_,rfl,?_⟩;refine gS ?_ λhS=>?_
    . exact hS.trans (hb6.mono hS.size)
    refine ta 6 (.bool true) hS λhS=>?_
    refine dn ?_;have HS:=Lh hS;have hbz:=hS.size;clear hS hwd hbd hb6 hbd4;go_wp2_with fail;go_ret;have ha:c.all (lS sig)=false:=List.all_eq_false.2 ⟨_,List.getElem_mem hlt,by rw[Hbl.out];simp⟩;refine⟨?_,HB2.out.trans ((Hup.out.toLow (B:=w.heap.size) (by omega) (λk e=>by omega)).trans (HS.out.mono (by omega)))⟩;unfold mI;rw[ha];rfl
   | true=>
    have hl12:=qJ ha Hbl.out;rw[Hxk.out]at hl12;have Hl1:=Lh hl12.1.2;have Hl2:=Lh hl12.2.2;clear hl12;go_upto_region 5 with fail
    clear x10;refine rg 7 (λ_ w'=>Below wr.heap.size wr w') ?_;intro wd hwd hbd;refine⟨?_,λhS=>?_⟩
    . exact hwd ▸ hbd
    refine tk 0 (.agg #[.slice As sig.length cs]) hS ?_ λhS=>?_
    . intro w' L hn hw;have o1:=(hx1r.low hw).cell;simp[execOp,go_sem,o1]
    refine ta 1 (.slice (some ⟨ab,off,none⟩) c.length cp) hS λhS=>?_
    refine ta 2 (.int .i64 (k:Nat)) hS λhS=>?_
    refine tk 3 (.pointer (some ⟨ab,off+k*5,none⟩)) hS ?_ λhS=>?_
    . intros;simp[execOp,go_sem,hlt,hkk]
    refine tk 4 (.agg #[.bool n0,.int .i64 f1,.slice A1 ys1.length c1,.int .i64 f2,.slice A2 ys2.length c2]) hS ?_ λhS=>?_
    . intro w' L hn hw;have q0:=(hw.cell (p:=⟨ab,off+k*5,none⟩) (show ab<wr.heap.size by omega)).trans K0.out;have q1:=(hw.cell (p:=⟨ab,off+k*5+1,none⟩) (show ab<wr.heap.size by omega)).trans K1.out;have q2:=(hw.cell (p:=⟨ab,off+k*5+2,none⟩) (show ab<wr.heap.size by omega)).trans K2.out;have q3:=(hw.cell (p:=⟨ab,off+k*5+3,none⟩) (show ab<wr.heap.size by omega)).trans K3.out;have q4:=(hw.cell (p:=⟨ab,off+k*5+4,none⟩) (show ab<wr.heap.size by omega)).trans K4.out;simp[execOp,go_sem,q0,q1,q2,q3,q4]
    refine so 5 ?_;have hbd4:Below wr.heap.size wr wd:=hwd ▸ hbd;refine aG ?_ (Hcl.out wd hbd4) ?_
    . simp[execOp,resolve,invoke,go_sem]
    rintro e w6 ⟨rfl,hb6⟩;refine⟨_,rfl,?_⟩;refine gS ?_ λhS=>?_
    . exact hS.trans (hb6.mono hS.size)
    refine ta 6 (.bool false) hS λhS=>?_
    refine dn ?_;have HS:=Lh hS;have hbz:=hS.size;clear hS hwd hbd hb6 hbd4;have m6:=Hmr.out.low HS.out;have M6:=Lh m6;have p1:=(HS.out.cell (p:=⟨ab,off+k*5+1,none⟩) (show ab<wr.heap.size by omega)).trans K1.out;have p2:=(HS.out.cell (p:=⟨ab,off+k*5+2,none⟩) (show ab<wr.heap.size by omega)).trans K2.out;have d1:=HR1.out.low HS.out (by omega);have D1:=Lh d1;clear m6 d1;go_wp2_with fail;refine(nN g 48 g (aI ys1+1) f1 ys1 _ B w6 _ (by omega) Hl1.out D1.out (by omega) (by omega) M6.out).mono ?_;rintro e w7 ⟨rfl,hm7,hu7⟩;have hb7:=hu7.toLow (B:=g) (by omega) (λk e=>by omega);have p3:=(hb7.cell (p:=⟨ab,off+k*5+3,none⟩) (show ab<g by omega)).trans ((HS.out.cell (p:=⟨ab,off+k*5+3,none⟩) (show ab<wr.heap.size by omega)).trans K3.out);have p4:=(hb7.cell (p:=⟨ab,off+k*5+4,none⟩) (show ab<g by omega)).trans ((HS.out.cell (p:=⟨ab,off+k*5+4,none⟩) (show ab<wr.heap.size by omega)).trans K4.out);have d2:=(HR2.out.low HS.out (by omega)).low hb7 (by omega);have D2:=Lh d2;have M7:=Lh hm7;have U7:=Lh hu7;have hz7:=hu7.size;clear d2 hm7 hu7 hb7;go_wp2_with fail;refine(nN g 48 g (aI ys2+1) f2 ys2 _ B w7 _ (by omega) Hl2.out D2.out (by omega) (by omega) M7.out).mono ?_;rintro e w8 ⟨rfl,hm8,hu8⟩;have M8:=Lh hm8;have U8:=Lh hu8;clear hm8 hu8;go_wp2_with fail;go_roundw
    case rel=>
     refine⟨k+1,by omega,by go_num,?_,λj hj hjk=>?_,Hup.out.trans (((Upd.low HS.out _).trans U7.out (λi e=>.inl e)).trans U8.out (λi e=>.inl e)) (λi e=>.inl e)⟩
     . rw[qO hlt,Hxk.out];exact M8.out
     by_cases e:j=k
     . subst e;exact Hbl.out
     exact Hall.out j hj (by omega)
    case measure=>simp[intOf];omega
 have e:c.take k=c:=List.take_of_length_le (by omega);have hallt:c.all (lS sig)=true:=List.all_eq_true.2 λx hx=>by
  obtain⟨j,hj,rfl⟩:=List.mem_iff_getElem.1 hx;exact Hall.out j hj (by omega)
 rw[e]at Hmr;have hmm:dD g g 48 (jP c) wr:=Hmr.out;have Hmm:=Lh hmm;have Hat:=Lh hallt;have hml:=oA c;have hvc:(jS c).length=(eU (jP c) 0).length:=rfl;have Hvc:=Lh hvc;clear Hall Hmr hmm hallt e hvc;obtain⟨m,hm9⟩:∃m,jP c=m:=⟨_,rfl⟩;rw[hm9]at Hmm hml Hvc;go_wp2_with fail;obtain⟨wo,hwo⟩:∃wo:World,wo=wr:=⟨_,rfl⟩;rw[<-hwo]at Hmm Hbr;have Hb00:=Lh (show Below wo.heap.size wo wr from by rw[hwo];exact Below.refl _ _);clear hwo;go_loopw [7,8] (λn i wr=>∃k q:Nat,k<=48/\i=.int .i64 k/\n=.int .i64 q/\q<=k/\q=(eU (m.take k) 0).length/\Below wo.heap.size wo wr) (λ_ i _=>48-(intOf i).toNat)
 case atStart=>exact⟨0,0,Nat.zero_le _,rfl,rfl,Nat.zero_le _,rfl,Hb00.out⟩
 obtain⟨k,q,hk3,rfl,rfl,hqk,hq,hbel⟩:=hrel;have Hq:=Lh hq;have Hbel:=Lh hbel;clear hq hbel;by_cases hlt3:k<48
 . have hlt4:k<m.length:=by omega
   obtain⟨t0,-⟩:=(Hmm.out.low Hbel.out).at_ hlt4;have hst:=tC hlt4;obtain⟨bk,hbk⟩:∃b,m[k]=b:=⟨_,rfl⟩;rw[hbk]at t0 hst;have Hst:=Lh hst;clear hst hbk;have hk5:(k:Int)<48:=by omega
   have hk6:¬((48:Int)<=(k:Int)):=by omega
   cases bk with
   | true=>
    go_wp2_with fail;go_roundw
    case rel=>exact⟨k+1,q+1,by omega,by go_num,by go_num,by omega,by rw[Hst.out,if_pos rfl,List.length_append,<-Hq.out];rfl,Hbel.out⟩
    case measure=>simp[intOf];omega
   | false=>
    go_wp2_with fail;go_roundw
    case rel=>exact⟨k+1,q,by omega,by go_num,rfl,by omega,by rw[Hst.out,if_neg (by decide)];exact Hq.out,Hbel.out⟩
    case measure=>simp[intOf];omega
 have e:m.take k=m:=List.take_of_length_le (by omega);have hq2:=Hq.out;rw[e,<-Hvc.out]at hq2;have Hq2:=Lh hq2;clear hq2 e;have hk6:¬((k:Int)<48):=by omega
 by_cases h8:q<=8
 . have h8':(q:Int)<=8:=by omega
   go_wp2_with fail;go_ret;refine⟨?_,Hbr.out.trans (Hbel.out.mono Hbr.out.size)⟩;unfold mI;rw[Hat.out,<-Hq2.out,decide_eq_true h8];rfl
 have h8':¬(q:Int)<=8:=by omega
 go_wp2_with fail;go_ret;refine⟨?_,Hbr.out.trans (Hbel.out.mono Hbr.out.size)⟩;unfold mI;rw[Hat.out,<-Hq2.out,decide_eq_false h8];rfl
theorem lU (sig:List Sy)(ha:mC sig)(c:Cl)(v vs:Value)(B:Nat)(w:World)(hr:Rd w B (aT c) v)(hrt:Rd w B (fX sig) vs)(hB:B<=w.heap.size):
 Calls Try.prog 12 #[.agg #[vs],v] w (aP (dY sig c) w):=by
 obtain⟨Ac,cp,rfl,hc,hn,hm⟩:=Rd.cl_form hr;obtain⟨As,cs,rfl,hsc,hsn,hsm⟩:=Rd.row_form (show Rd w B (.sl 3 (sig.map fZ)) vs from hrt);have H3:=Lh hr;have HT:=Lh hrt;clear hr hrt;obtain⟨ba,hba⟩:∃b,mI sig c=b:=⟨_,rfl⟩;have Has:=Lh hba;clear hba;cases ba with
 | false=>
  have he:dY sig c=false:=by unfold dY;rw[Has.out];rfl
  rw[he];clear he;go_enter Try.func12,Try.ntmps12;go_upto_region 1 with fail
  have hb1:=aD w (.cells #[.slice As sig.length cs] 24);have hx1:aU w.heap.size 24 (.slice As sig.length cs) (w.alloc (.cells #[.slice As sig.length cs] 24)):=heap_alloc_new w _;have hz1:(w.alloc (.cells #[.slice As sig.length cs] 24)).heap.size=w.heap.size+1:=by simp
  generalize w.alloc (.cells #[.slice As sig.length cs] 24)=w1 at hx1 hb1 hz1 ⊢;have HX1:=Lh hx1;have HB1:=Lh hb1;have x10:=hx1.cell;clear hx1 hb1;go_wp2_with fail;refine(vY sig ha c _ _ B w1 (H3.out.low HB1.out hB) (HT.out.low HB1.out hB) (by omega)).mono ?_;rw[Has.out];rintro e w2 ⟨rfl,hb2⟩;have Hb2:=Lh hb2;have x10:=(HX1.out.low hb2).cell;clear hb2;go_wp2_with fail;go_ret;exact⟨rfl,HB1.out.trans (Hb2.out.mono (by omega))⟩
 | true=>
  have he:dY sig c=c.all (jO sig):=by unfold dY;rw[Has.out,Bool.true_and]
  have He:=Lh he;have hlit:∀x∈c,lS sig x=true:=by
   have h:=Has.out;unfold mI at h;rw[Bool.and_eq_true,List.all_eq_true]at h;exact h.1
  have Hlit:=Lh hlit;clear he hlit;go_enter Try.func12,Try.ntmps12;go_upto_region 1 with fail
  have hb1:=aD w (.cells #[.slice As sig.length cs] 24);have hx1:aU w.heap.size 24 (.slice As sig.length cs) (w.alloc (.cells #[.slice As sig.length cs] 24)):=heap_alloc_new w _;have hz1:(w.alloc (.cells #[.slice As sig.length cs] 24)).heap.size=w.heap.size+1:=by simp
  generalize w.alloc (.cells #[.slice As sig.length cs] 24)=w1 at hx1 hb1 hz1 ⊢;have HX1:=Lh hx1;have HB1:=Lh hb1;have x10:=hx1.cell;clear hx1 hb1;go_wp2_with fail;refine(vY sig ha c _ _ B w1 (H3.out.low HB1.out hB) (HT.out.low HB1.out hB) (by omega)).mono ?_;rw[Has.out];rintro e w2 ⟨rfl,hb2⟩;have Hb2:=Lh hb2;have x10:=(HX1.out.low hb2).cell;clear hb2;have hb02:Below w.heap.size w w2:=HB1.out.trans (Hb2.out.mono (by omega));have hz2:=Hb2.out.size;have HB2:=Lh hb02;have HX2:=Lh (HX1.out.low Hb2.out);clear hb02;go_wp2_with fail;go_loopw [5] (λi wr=>∃k:Nat,k<=c.length/\i=.int .i64 k/\(∀j (h:j<c.length),j<k->jO sig c[j]=true)/\Below w2.heap.size w2 wr) (λi _=>c.length-(intOf i).toNat)
  case atStart=>exact⟨0,Nat.zero_le _,rfl,λj _ h=>by omega,Below.refl _ _⟩
  obtain⟨k,hk2,rfl,hall,hbel⟩:=hrel;have hzr:=hbel.size;have x10:=(HX2.out.low hbel).cell;have Hall:=Lh hall;have hbr:Below w.heap.size w wr:=HB2.out.trans (hbel.mono (by omega));have Hbr:=Lh hbr;have Hbel:=Lh hbel;clear hall hbel hbr;by_cases hlt:k<c.length
  . obtain⟨ab,off,n0,f1,ys1,A1,c1,f2,ys2,A2,c2,rfl,hxk,hab,k0,k1,k2,k3,k4,hr1,hr2⟩:=(H3.out.low Hbr.out hB).lt_at hlt;have hl:=Hlit.out c[k] (List.getElem_mem hlt);unfold lS at hl;rw[Bool.and_eq_true,Bool.and_eq_true]at hl;have hf1:=hl.1.1;have hat:jO sig c[k]=(!(prB sig f1) || tr (.mk f2 ys2)):=(by unfold jO;rw[hxk];rfl);rw[hxk]at hf1;have HR2:=Lh hr2;have Hxk:=Lh hxk;clear hl hxk hr1 hr2;have K3:=Lh k3;have K4:=Lh k4;have hkk:¬((c.length:Int)<=(k:Int)):=(by omega);rcases aA5 hf1 with⟨hn1,hp1⟩ | ⟨m1,rfl,hm1,hp1⟩
    . rw[hp1]at hat;have Hat:=Lh (show jO sig c[k]=true from hat);have a1:¬0<=f1:=(by omega);clear hat hp1 hf1;go_upto_region 7 with fail
      have hb5:=aD wr (.cells #[.int .i64 f1,.slice A1 ys1.length c1] 51);have hx5:aL wr.heap.size 51 (.int .i64 f1) (.slice A1 ys1.length c1) (wr.alloc (.cells #[.int .i64 f1,.slice A1 ys1.length c1] 51)):=heap_alloc_new wr _;have hz5:(wr.alloc (.cells #[.int .i64 f1,.slice A1 ys1.length c1] 51)).heap.size=wr.heap.size+1:=(by simp);generalize wr.alloc (.cells #[.int .i64 f1,.slice A1 ys1.length c1] 51)=w5 at hb5 hx5 hz5 ⊢;obtain⟨y0,y1,-⟩:=hx5.cells;have x10:=((HX2.out.low Hbel.out).low hb5).cell;have Hb5:=Lh hb5;skip
      clear hb5 hx5;go_wp2_with fail;go_roundw
      case rel=>
       refine⟨k+1,by omega,by go_num,λj hj hjk=>?_,Hbel.out.trans (Hb5.out.mono (by omega))⟩;by_cases e:j=k
       . subst e;exact Hat.out
       exact Hall.out j hj (by omega)
      case measure=>simp[intOf];omega
    obtain⟨p1,hq1⟩:∃b,sig[m1].pr=b:=⟨_,rfl⟩;obtain⟨zb,zo,hAs,hzb,-,-,z2⟩:=(HT.out.low Hbr.out hB).sy_at hm1;rw[hq1]at z2 hp1;rw[hp1]at hat;have Z2:=Lh z2;have g1:¬((sig.length:Int)<=(m1:Int)):=(by omega);have g2:(m1:Int)<(sig.length:Int):=(by omega);clear z2 hq1 hp1 hf1;have hzw:=Hbr.out.size;subst hAs;cases p1 with
    | false=>
     have Hat:=Lh (show jO sig c[k]=true from hat);clear hat;go_upto_region 7 with fail
     have hb5:=aD wr (.cells #[.int .i64 (m1:Nat),.slice A1 ys1.length c1] 51);have hx5:aL wr.heap.size 51 (.int .i64 (m1:Nat)) (.slice A1 ys1.length c1) (wr.alloc (.cells #[.int .i64 (m1:Nat),.slice A1 ys1.length c1] 51)):=heap_alloc_new wr _;have hz5:(wr.alloc (.cells #[.int .i64 (m1:Nat),.slice A1 ys1.length c1] 51)).heap.size=wr.heap.size+1:=(by simp);generalize wr.alloc (.cells #[.int .i64 (m1:Nat),.slice A1 ys1.length c1] 51)=w5 at hb5 hx5 hz5 ⊢;obtain⟨y0,y1,-⟩:=hx5.cells;have x10:=((HX2.out.low Hbel.out).low hb5).cell;have Hb5:=Lh hb5;(have z2:=(hb5.cell (p:=⟨zb,zo+m1*3+2,none⟩) (show zb<wr.heap.size by omega)).trans Z2.out)
     clear hb5 hx5;go_wp2_with fail;go_roundw
     case rel=>
      refine⟨k+1,by omega,by go_num,λj hj hjk=>?_,Hbel.out.trans (Hb5.out.mono (by omega))⟩;by_cases e:j=k
      . subst e;exact Hat.out
      exact Hall.out j hj (by omega)
     case measure=>simp[intOf];omega
    | true=>
     have htr:tr (.mk f2 ys2)=bJ f2 ys2.length:=rfl;rw[htr]at hat;obtain⟨bt,hbt⟩:∃b,bJ f2 ys2.length=b:=⟨_,rfl⟩;rw[hbt]at hat;have Hbt:=Lh hbt;have Hat:=Lh (show jO sig c[k]=bt from hat);clear hat hbt htr;go_upto_region 7 with fail
     have hb5:=aD wr (.cells #[.int .i64 (m1:Nat),.slice A1 ys1.length c1] 51);have hx5:aL wr.heap.size 51 (.int .i64 (m1:Nat)) (.slice A1 ys1.length c1) (wr.alloc (.cells #[.int .i64 (m1:Nat),.slice A1 ys1.length c1] 51)):=heap_alloc_new wr _;have hz5:(wr.alloc (.cells #[.int .i64 (m1:Nat),.slice A1 ys1.length c1] 51)).heap.size=wr.heap.size+1:=(by simp);generalize wr.alloc (.cells #[.int .i64 (m1:Nat),.slice A1 ys1.length c1] 51)=w5 at hb5 hx5 hz5 ⊢;obtain⟨y0,y1,-⟩:=hx5.cells;have x10:=((HX2.out.low Hbel.out).low hb5).cell;have Hb5:=Lh hb5;(have z2:=(hb5.cell (p:=⟨zb,zo+m1*3+2,none⟩) (show zb<wr.heap.size by omega)).trans Z2.out;have k3:=(hb5.cell (p:=⟨ab,off+k*5+3,none⟩) (show ab<wr.heap.size by omega)).trans K3.out;have k4:=(hb5.cell (p:=⟨ab,off+k*5+4,none⟩) (show ab<wr.heap.size by omega)).trans K4.out)
     clear hb5 hx5;go_wp2_with fail;refine(rN f2 ys2 _ B w5 (HR2.out.low Hb5.out (by omega))).mono ?_;rw[Hbt.out];rintro e w6 ⟨rfl,hb6⟩;have hz56:=Hb5.out.size;have Hb6:=Lh (Hb5.out.trans (hb6.mono hz56));clear hb6;cases bt with
     | true=>
      go_wp2_with fail;go_roundw
      case rel=>
       refine⟨k+1,by omega,by go_num,λj hj hjk=>?_,Hbel.out.trans (Hb6.out.mono (by omega))⟩;by_cases e:j=k
       . subst e;exact Hat.out
       exact Hall.out j hj (by omega)
      case measure=>simp[intOf];omega
     | false=>
      go_wp2_with fail;go_ret;have hal:c.all (jO sig)=false:=List.all_eq_false.2 ⟨_,List.getElem_mem hlt,by rw[Hat.out];simp⟩;rw[He.out,hal];exact⟨rfl,Hbr.out.trans (Hb6.out.mono hzw)⟩
  have hal:c.all (jO sig)=true:=List.all_eq_true.2 λx hx=>by
   obtain⟨j,hj,rfl⟩:=List.mem_iff_getElem.1 hx;exact Hall.out j hj (by omega)
  have Hal:=Lh hal;clear hal;go_wp2_with fail;go_ret;rw[He.out,Hal.out];exact⟨rfl,Hbr.out⟩
theorem lC:∀(l m:List Int),l.Nodup->(∀x∈l,x∈m)->l.length<=m.length
 | [],m,_,_=>Nat.zero_le _
 | x::l,m,hn,h=>by
  have hx:=h x (List.mem_cons_self ..);have hn:=List.nodup_cons.1 hn;have ih:=lC l (m.erase x) hn.2 λy hy=>by
   have hne:y≠x:=λe=>hn.1 (e ▸ hy)
   exact(List.mem_erase_of_ne hne).2 (h y (List.mem_cons_of_mem _ hy))
  rw[List.length_erase_of_mem hx]at ih;have:=List.length_pos_of_mem hx;rw[List.length_cons];omega
def JnR (p:Int->Prop)(n:Nat)(l l':List Int):Prop:=(l.Nodup->l'.Nodup)/\(∀x,x∈l'↔x∈l\/p x)/\l'.length<=l.length+n
theorem JnR.refl (l:List Int) {n:Nat}:JnR (λ_=>False) n l l:=⟨id,λx=>by simp,by omega⟩
theorem JnR.trans {p q r:Int->Prop} {n m k:Nat} {l l' l2:List Int} (h:JnR p n l l')(h2:JnR q m l' l2)(hr:∀x,r x↔p x\/q x)(hk:n+m<=k):JnR r k l l2:=
 ⟨λe=>h2.1 (h.1 e),λx=>by rw[h2.2.1,h.2.1,hr,or_assoc],by have:=h.2.2;have:=h2.2.2;omega⟩
theorem JnR.congr {p q:Int->Prop} {n m:Nat} {l l':List Int} (h:JnR p n l l')(hr:∀x,q x↔p x)(hk:n<=m):JnR q m l l':=
 ⟨h.1,λx=>by rw[h.2.1,hr],by have:=h.2.2;omega⟩
def jQ (l:List Int)(v:Int)(k:Nat)(done:Bool)(out:List Int):Prop:=out.Perm (if done=true then v::l.take k else l.take k)
theorem jQ.start (l:List Int)(v:Int):jQ l v 0 false []:=by unfold jQ;simp
theorem jQ.next {l:List Int} {v:Int} {k:Nat} {done:Bool} {out:List Int} (h:jQ l v k done out)(hk:k<l.length):jQ l v (k+1) done (out++[l[k]]):=by
 unfold jQ at h ⊢;rw[List.take_succ_eq_append_getElem hk];cases done with
 | true=>exact List.Perm.append_right [l[k]] h
 | false=>exact List.Perm.append_right [l[k]] h
theorem jQ.put {l:List Int} {v:Int} {k:Nat} {out:List Int} (h:jQ l v k false out):jQ l v k true (out++[v]):=by
 unfold jQ at h ⊢;exact(List.Perm.append_right [v] h).trans (List.perm_append_comm.trans (by simp))
theorem jQ.len {l:List Int} {v:Int} {k:Nat} {done:Bool} {out:List Int} (h:jQ l v k done out)(hk:k<=l.length):out.length<=k+1:=by
 have:=List.Perm.length_eq h;cases done with
 | true=>rw[this];simp;omega
 | false=>rw[this];simp;omega
theorem jQ.done {l:List Int} {v:Int} {out:List Int} (h:jQ l v l.length true out)(hv:v∉l):JnR (λx=>x=v) 1 l out:=by
 unfold jQ at h;rw[if_pos rfl,List.take_length]at h;refine⟨λhn=>h.nodup_iff.2 (List.nodup_cons.2 ⟨hv,hn⟩),λx=>?_,?_⟩
 . rw[h.mem_iff,List.mem_cons,or_comm]
 rw[h.length_eq,List.length_cons];exact Nat.le_refl _
theorem JnR.here {l:List Int} {v:Int} (hv:v∈l):JnR (λx=>x=v) 1 l l:=
 ⟨id,λx=>⟨.inl,λh=>h.elim id λe=>e ▸ hv⟩,by omega⟩
def qZ (t:Tm)(x:Int):Prop:=∃j:Nat,x=(j:Int)/\mW j t=true
def rA (ts:List Tm)(x:Int):Prop:=∃j:Nat,x=(j:Int)/\eG j ts=true
theorem aE1 (x:Int):rA [] x↔False:=⟨fun⟨j,_,h⟩=>(by rw[eG]at h;cases h),False.elim⟩
theorem kQ:∀(xs ys:List Tm) (j:Nat),eG j (xs++ys)=(eG j xs || eG j ys)
 | [],ys,j=>by rw[eG];rfl
 | x::xs,ys,j=>by rw[List.cons_append,eG,eG,kQ xs ys j,Bool.or_assoc]
theorem yY {xs:List Tm} {k:Nat} (hk:k<xs.length)(x:Int):rA (xs.take (k+1)) x↔rA (xs.take k) x\/qZ xs[k] x:=by
 unfold rA qZ;rw[List.take_succ_eq_append_getElem hk];constructor
 . rintro⟨j,hj,h⟩;rw[kQ,Bool.or_eq_true,eG,eG,Bool.or_false]at h;exact h.elim (λh=>.inl ⟨j,hj,h⟩) λh=>.inr ⟨j,hj,h⟩
 rintro(⟨j,hj,h⟩ | ⟨j,hj,h⟩)
 . exact⟨j,hj,by rw[kQ,h];rfl⟩
 exact⟨j,hj,by rw[kQ,eG,h];simp⟩
theorem aI4 {f:Int} {xs:List Tm} (hf:f<0)(x:Int):qZ (.mk f xs) x↔x= -1-f:=by
 unfold qZ;constructor
 . rintro⟨j,hj,h⟩;rw[mW,if_pos hf,decide_eq_true_eq]at h;omega
 intro h;exact⟨(-1-f).toNat,by omega,by rw[mW,if_pos hf,decide_eq_true_eq];omega⟩
theorem aI3 {f:Int} {xs:List Tm} (hf:¬f<0)(x:Int):qZ (.mk f xs) x↔rA xs x:=by
 unfold qZ rA;simp only[mW,if_neg hf]
def oV (c:Cl)(x:Int):Prop:=∃j:Nat,x=(j:Int)/\pE j c=true
theorem aE0 (x:Int):oV [] x↔False:=⟨fun⟨j,_,h⟩=>(by unfold pE at h;cases h),False.elim⟩
theorem yX {c:Cl} {k:Nat} (hk:k<c.length)(x:Int):oV (c.take (k+1)) x↔(oV (c.take k) x\/qZ c[k].l x)\/qZ c[k].r x:=by
 unfold oV qZ pE;rw[List.take_succ_eq_append_getElem hk];simp only[List.any_append,List.any_cons,List.any_nil,Bool.or_false,Bool.or_eq_true];constructor
 . rintro⟨j,hj,h | h | h⟩
   . exact .inl (.inl ⟨j,hj,h⟩)
   . exact .inl (.inr ⟨j,hj,h⟩)
   exact .inr ⟨j,hj,h⟩
 rintro((⟨j,hj,h⟩ | ⟨j,hj,h⟩) | ⟨j,hj,h⟩)
 . exact⟨j,hj,.inl h⟩
 . exact⟨j,hj,.inr (.inl h)⟩
 exact⟨j,hj,.inr (.inr h)⟩
theorem aM2 {c:Cl} {l:List Int} (h:∀x,oV c x->x∈l):(jS c).length<=l.length:=by
 have hn:((jS c).map λj:Nat=>(j:Int)).Nodup:=(jA (jP c) 0).map _ λa b hab e=>hab (Int.ofNat.inj e)
 have:=lC _ l hn λx hx=>by
  obtain⟨j,hj,rfl⟩:=List.mem_map.1 hx;exact h _ ⟨j,rfl,((rV c j).1 hj).2⟩
 rwa [List.length_map]at this
theorem aC7 (sig:List Sy)(N:Nat)(tab:List (List Int))(E:List Int)(hW:RightW sig N tab)(hE:E.length=48)(hEv:∀v∈E,0<=v/\v<(N:Int))(c:Cl)(hfit:∀x∈c,(bQ (fP sig) x.l/\fM 48 x.l=true)/\(bQ (fP sig) x.r/\fM 48 x.r=true))
 (v vt ve:Value) (B:Nat) (w:World) (hr:Rd w B (aT c) v) (hrt:Rd w B (iX tab) vt) (hre:Rd w B (bM E) ve) (hB:B<=w.heap.size):
 Calls Try.prog 28 #[.agg #[.int .i64 (N:Nat),vt],ve,v] w (aP (jY (cN N tab) (dQ E) c) w):=by
 obtain⟨Ac,cp,rfl,hc,hn,hm⟩:=Rd.cl_form hr;obtain⟨At,ct,rfl,-,-,-⟩:=Rd.row_form (show Rd w B (.sl 1 (tab.map λr=>[bM r])) vt from hrt);obtain⟨Ae,ce,rfl,-,-,-⟩:=Rd.row_form (show Rd w B (.sl 1 (E.map λn=>[.leaf (.int .i64 n)])) ve from hre);have H3:=Lh hr;have HT:=Lh hrt;have HE:=Lh hre;rw[hE]at HE;have Hfit:=Lh hfit;clear hr hrt hre hfit;rw[hE];go_enter Try.func28,Try.ntmps28;go_upto_region 1 with fail
 have hb1:=aD w (.cells #[.int .i64 (N:Nat),.slice At tab.length ct] 27);have hx1:aL w.heap.size 27 (.int .i64 (N:Nat)) (.slice At tab.length ct) (w.alloc (.cells #[.int .i64 (N:Nat),.slice At tab.length ct] 27)):=heap_alloc_new w _;have hz1:(w.alloc (.cells #[.int .i64 (N:Nat),.slice At tab.length ct] 27)).heap.size=w.heap.size+1:=by simp
 generalize w.alloc (.cells #[.int .i64 (N:Nat),.slice At tab.length ct] 27)=w1 at hx1 hb1 hz1 ⊢;have HX1:=Lh hx1;have HB1:=Lh hb1;clear hx1 hb1;go_wp2_with fail;go_loopw [7] (λi wr=>∃k:Nat,k<=c.length/\i=.int .i64 k/\(∀j (h:j<c.length),j<k->mT (cN N tab) (dQ E) c[j]=false)/\Below w1.heap.size w1 wr) (λi _=>c.length-(intOf i).toNat)
 case atStart=>exact⟨0,Nat.zero_le _,rfl,λj _ h=>by omega,Below.refl _ _⟩
 obtain⟨k,hk2,rfl,hall,hup⟩:=hrel;have hzr:=hup.size;have hx1r:=HX1.out.low hup;obtain⟨x10,x11,-⟩:=hx1r.cells;have Hup:=Lh hup;have Hall:=Lh hall;have hbr:Below w.heap.size w wr:=HB1.out.trans (hup.mono (by omega));have Hbr:=Lh hbr;clear hup hall hbr;by_cases hlt:k<c.length
 . obtain⟨ab,off,n0,f1,ys1,A1,c1,f2,ys2,A2,c2,rfl,hxk,hab,k0,k1,k2,k3,k4,hr1,hr2⟩:=(H3.out.low Hbr.out hB).lt_at hlt;have hft:=Hfit.out c[k] (List.getElem_mem hlt);obtain⟨v1,hv1⟩:∃v,cG (cN N tab) (dQ E) (.mk f1 ys1)=v:=⟨_,rfl⟩;obtain⟨v2,hv2⟩:∃v,cG (cN N tab) (dQ E) (.mk f2 ys2)=v:=⟨_,rfl⟩;have hbl:mT (cN N tab) (dQ E) c[k]=((v1==v2) !=n0):=by unfold mT;rw[hxk];simp only[hv1,hv2]
   rw[hxk]at hft;have hrd:=fun(w':World) (hb:Below wr.heap.size wr w')=>Hbr.out.trans (hb.mono Hbr.out.size)
   have hc1:=fun(w':World) (hb:Below wr.heap.size wr w')=>uE sig N tab E hW hE hEv (aI ys1+1) f1 ys1 (.slice A1 ys1.length c1) (.slice At tab.length ct) (.slice Ae 48 ce) B w' (by omega) hft.1.1 hft.1.2 (hr1.low hb (by omega)) (HT.out.low (hrd w' hb) hB) (HE.out.low (hrd w' hb) hB) (by have:=hb.size;omega)
   have hc2:=fun(w':World) (hb:Below wr.heap.size wr w')=>uE sig N tab E hW hE hEv (aI ys2+1) f2 ys2 (.slice A2 ys2.length c2) (.slice At tab.length ct) (.slice Ae 48 ce) B w' (by omega) hft.2.1 hft.2.2 (hr2.low hb (by omega)) (HT.out.low (hrd w' hb) hB) (HE.out.low (hrd w' hb) hB) (by have:=hb.size;omega)
   rw[hv1]at hc1;rw[hv2]at hc2;have Hc1:=Lh hc1;have Hc2:=Lh hc2;have K0:=Lh k0;have K1:=Lh k1;have K2:=Lh k2;have K3:=Lh k3;have K4:=Lh k4;have hkk:¬((c.length:Int)<=(k:Int)):=by omega
   clear hc1 hc2 hv1 hv2 hxk hr1 hr2 hrd hft k0 k1 k2 k3 k4;by_cases h12:v1=v2
   . rw[h12,beq_self_eq_true]at hbl;cases n0 with
     | true=>
      have Hbl:=Lh hbl;clear hbl;go_upto_region 4 with fail
      clear x10 x11;refine rg 23 (λ_ w'=>Below wr.heap.size wr w') ?_;intro wd hwd hbd;refine⟨?_,λhS=>?_⟩
      . exact hwd ▸ hbd
      refine tk 0 (.agg #[.int .i64 (N:Nat),.slice At tab.length ct]) hS ?_ λhS=>?_
      . intro w' L hn hw;obtain⟨o1,o2,-⟩:=(hx1r.low hw).cells;simp[execOp,go_sem,o1,o2]
      refine ta 1 (.slice Ae 48 ce) hS λhS=>?_
      refine ta 2 (.slice (some ⟨ab,off,none⟩) c.length cp) hS λhS=>?_
      refine ta 3 (.int .i64 (k:Nat)) hS λhS=>?_
      refine tk 4 (.pointer (some ⟨ab,off+k*5,none⟩)) hS ?_ λhS=>?_
      . intros;simp[execOp,go_sem,hlt,hkk]
      refine ta 5 (.pointer (some ⟨ab,off+k*5+1,none⟩)) hS λhS=>?_
      refine tk 6 (.agg #[.int .i64 f1,.slice A1 ys1.length c1]) hS ?_ λhS=>?_
      . intro w' L hn hw;have q1:=(hw.cell (p:=⟨ab,off+k*5+1,none⟩) (show ab<wr.heap.size by omega)).trans K1.out;have q2:=(hw.cell (p:=⟨ab,off+k*5+2,none⟩) (show ab<wr.heap.size by omega)).trans K2.out;simp[execOp,go_sem,q1,q2]
      refine tk 8 (.agg #[.int .i64 (N:Nat),.slice At tab.length ct]) hS ?_ λhS=>?_
      . intro w' L hn hw;obtain⟨o1,o2,-⟩:=(hx1r.low hw).cells;simp[execOp,go_sem,o1,o2]
      refine ta 9 (.slice Ae 48 ce) hS λhS=>?_
      refine ta 10 (.slice (some ⟨ab,off,none⟩) c.length cp) hS λhS=>?_
      refine ta 11 (.int .i64 (k:Nat)) hS λhS=>?_
      refine tk 12 (.pointer (some ⟨ab,off+k*5,none⟩)) hS ?_ λhS=>?_
      . intros;simp[execOp,go_sem,hlt,hkk]
      refine ta 13 (.pointer (some ⟨ab,off+k*5+3,none⟩)) hS λhS=>?_
      refine tk 14 (.agg #[.int .i64 f2,.slice A2 ys2.length c2]) hS ?_ λhS=>?_
      . intro w' L hn hw;have q3:=(hw.cell (p:=⟨ab,off+k*5+3,none⟩) (show ab<wr.heap.size by omega)).trans K3.out;have q4:=(hw.cell (p:=⟨ab,off+k*5+4,none⟩) (show ab<wr.heap.size by omega)).trans K4.out;simp[execOp,go_sem,q3,q4]
      refine ta 17 (.slice (some ⟨ab,off,none⟩) c.length cp) hS λhS=>?_
      refine ta 18 (.int .i64 (k:Nat)) hS λhS=>?_
      refine tk 19 (.pointer (some ⟨ab,off+k*5,none⟩)) hS ?_ λhS=>?_
      . intros;simp[execOp,go_sem,hlt,hkk]
      refine ta 20 (.pointer (some ⟨ab,off+k*5,none⟩)) hS λhS=>?_
      refine tk 21 (.bool true) hS ?_ λhS=>?_
      . intro w' L hn hw;have q0:=(hw.cell (p:=⟨ab,off+k*5,none⟩) (show ab<wr.heap.size by omega)).trans K0.out;simp[execOp,go_sem,q0]
      refine so 7 ?_;have hbd4:Below wr.heap.size wr wd:=hwd ▸ hbd;refine aG ?_ (Hc1.out wd hbd4) ?_
      . simp[execOp,resolve,invoke,go_sem]
      rintro e w6 ⟨rfl,hb6⟩;refine⟨_,rfl,?_⟩;refine gS ?_ λhS=>?_
      . exact hS.trans (hb6.mono hS.size)
      refine so 15 ?_;have hbd4:Below wr.heap.size wr w6:=hS;refine aG ?_ (Hc2.out w6 hbd4) ?_
      . simp[execOp,resolve,invoke,go_sem]
      rintro e w7 ⟨rfl,hb7⟩;refine⟨_,rfl,?_⟩;refine gS ?_ λhS=>?_
      . exact hS.trans (hb7.mono hS.size)
      refine tk 16 (.bool true) hS ?_ λhS=>?_
      . intros;simp[execOp,go_sem,h12]
      refine ta 22 (.bool false) hS λhS=>?_
      refine dn ?_;have HS:=Lh hS;have hbz:=hS.size;clear hS hwd hbd;go_wp2_with fail;go_roundw
      case rel=>
       refine⟨k+1,by omega,by go_num,λj hj hjk=>?_,Hup.out.trans (HS.out.mono hzr)⟩;by_cases e:j=k
       . subst e;exact Hbl.out
       exact Hall.out j hj (by omega)
      case measure=>simp[intOf];omega
     | false=>
      have Hbl:=Lh hbl;clear hbl;go_upto_region 4 with fail
      clear x10 x11;refine rg 23 (λ_ w'=>Below wr.heap.size wr w') ?_;intro wd hwd hbd;refine⟨?_,λhS=>?_⟩
      . exact hwd ▸ hbd
      refine tk 0 (.agg #[.int .i64 (N:Nat),.slice At tab.length ct]) hS ?_ λhS=>?_
      . intro w' L hn hw;obtain⟨o1,o2,-⟩:=(hx1r.low hw).cells;simp[execOp,go_sem,o1,o2]
      refine ta 1 (.slice Ae 48 ce) hS λhS=>?_
      refine ta 2 (.slice (some ⟨ab,off,none⟩) c.length cp) hS λhS=>?_
      refine ta 3 (.int .i64 (k:Nat)) hS λhS=>?_
      refine tk 4 (.pointer (some ⟨ab,off+k*5,none⟩)) hS ?_ λhS=>?_
      . intros;simp[execOp,go_sem,hlt,hkk]
      refine ta 5 (.pointer (some ⟨ab,off+k*5+1,none⟩)) hS λhS=>?_
      refine tk 6 (.agg #[.int .i64 f1,.slice A1 ys1.length c1]) hS ?_ λhS=>?_
      . intro w' L hn hw;have q1:=(hw.cell (p:=⟨ab,off+k*5+1,none⟩) (show ab<wr.heap.size by omega)).trans K1.out;have q2:=(hw.cell (p:=⟨ab,off+k*5+2,none⟩) (show ab<wr.heap.size by omega)).trans K2.out;simp[execOp,go_sem,q1,q2]
      refine tk 8 (.agg #[.int .i64 (N:Nat),.slice At tab.length ct]) hS ?_ λhS=>?_
      . intro w' L hn hw;obtain⟨o1,o2,-⟩:=(hx1r.low hw).cells;simp[execOp,go_sem,o1,o2]
      refine ta 9 (.slice Ae 48 ce) hS λhS=>?_
      refine ta 10 (.slice (some ⟨ab,off,none⟩) c.length cp) hS λhS=>?_
      refine ta 11 (.int .i64 (k:Nat)) hS λhS=>?_
      refine tk 12 (.pointer (some ⟨ab,off+k*5,none⟩)) hS ?_ λhS=>?_
      . intros;simp[execOp,go_sem,hlt,hkk]
      refine ta 13 (.pointer (some ⟨ab,off+k*5+3,none⟩)) hS λhS=>?_
      refine tk 14 (.agg #[.int .i64 f2,.slice A2 ys2.length c2]) hS ?_ λhS=>?_
      . intro w' L hn hw;have q3:=(hw.cell (p:=⟨ab,off+k*5+3,none⟩) (show ab<wr.heap.size by omega)).trans K3.out;have q4:=(hw.cell (p:=⟨ab,off+k*5+4,none⟩) (show ab<wr.heap.size by omega)).trans K4.out;simp[execOp,go_sem,q3,q4]
      refine ta 17 (.slice (some ⟨ab,off,none⟩) c.length cp) hS λhS=>?_
      refine ta 18 (.int .i64 (k:Nat)) hS λhS=>?_
      refine tk 19 (.pointer (some ⟨ab,off+k*5,none⟩)) hS ?_ λhS=>?_
      . intros;simp[execOp,go_sem,hlt,hkk]
      refine ta 20 (.pointer (some ⟨ab,off+k*5,none⟩)) hS λhS=>?_
      refine tk 21 (.bool false) hS ?_ λhS=>?_
      . intro w' L hn hw;have q0:=(hw.cell (p:=⟨ab,off+k*5,none⟩) (show ab<wr.heap.size by omega)).trans K0.out;simp[execOp,go_sem,q0]
      refine so 7 ?_;have hbd4:Below wr.heap.size wr wd:=hwd ▸ hbd;refine aG ?_ (Hc1.out wd hbd4) ?_
      . simp[execOp,resolve,invoke,go_sem]
      rintro e w6 ⟨rfl,hb6⟩;refine⟨_,rfl,?_⟩;refine gS ?_ λhS=>?_
      . exact hS.trans (hb6.mono hS.size)
      refine so 15 ?_;have hbd4:Below wr.heap.size wr w6:=hS;refine aG ?_ (Hc2.out w6 hbd4) ?_
      . simp[execOp,resolve,invoke,go_sem]
      rintro e w7 ⟨rfl,hb7⟩;refine⟨_,rfl,?_⟩;refine gS ?_ λhS=>?_
      . exact hS.trans (hb7.mono hS.size)
      refine tk 16 (.bool true) hS ?_ λhS=>?_
      . intros;simp[execOp,go_sem,h12]
      refine ta 22 (.bool true) hS λhS=>?_
      refine dn ?_;have HS:=Lh hS;have hbz:=hS.size;clear hS hwd hbd;go_wp2_with fail;go_ret;have ha:jY (cN N tab) (dQ E) c=true:=List.any_eq_true.2 ⟨_,List.getElem_mem hlt,Hbl.out⟩;rw[ha];exact⟨rfl,Hbr.out.trans (HS.out.mono Hbr.out.size)⟩
   rw[beq_false_of_ne h12]at hbl;cases n0 with
   | true=>
    have Hbl:=Lh hbl;clear hbl;go_upto_region 4 with fail
    clear x10 x11;refine rg 23 (λ_ w'=>Below wr.heap.size wr w') ?_;intro wd hwd hbd;refine⟨?_,λhS=>?_⟩
    . exact hwd ▸ hbd
    refine tk 0 (.agg #[.int .i64 (N:Nat),.slice At tab.length ct]) hS ?_ λhS=>?_
    . intro w' L hn hw;obtain⟨o1,o2,-⟩:=(hx1r.low hw).cells;simp[execOp,go_sem,o1,o2]
    refine ta 1 (.slice Ae 48 ce) hS λhS=>?_
    refine ta 2 (.slice (some ⟨ab,off,none⟩) c.length cp) hS λhS=>?_
    refine ta 3 (.int .i64 (k:Nat)) hS λhS=>?_
    refine tk 4 (.pointer (some ⟨ab,off+k*5,none⟩)) hS ?_ λhS=>?_
    . intros;simp[execOp,go_sem,hlt,hkk]
    refine ta 5 (.pointer (some ⟨ab,off+k*5+1,none⟩)) hS λhS=>?_
    refine tk 6 (.agg #[.int .i64 f1,.slice A1 ys1.length c1]) hS ?_ λhS=>?_
    . intro w' L hn hw;have q1:=(hw.cell (p:=⟨ab,off+k*5+1,none⟩) (show ab<wr.heap.size by omega)).trans K1.out;have q2:=(hw.cell (p:=⟨ab,off+k*5+2,none⟩) (show ab<wr.heap.size by omega)).trans K2.out;simp[execOp,go_sem,q1,q2]
    refine tk 8 (.agg #[.int .i64 (N:Nat),.slice At tab.length ct]) hS ?_ λhS=>?_
    . intro w' L hn hw;obtain⟨o1,o2,-⟩:=(hx1r.low hw).cells;simp[execOp,go_sem,o1,o2]
    refine ta 9 (.slice Ae 48 ce) hS λhS=>?_
    refine ta 10 (.slice (some ⟨ab,off,none⟩) c.length cp) hS λhS=>?_
    refine ta 11 (.int .i64 (k:Nat)) hS λhS=>?_
    refine tk 12 (.pointer (some ⟨ab,off+k*5,none⟩)) hS ?_ λhS=>?_
    . intros;simp[execOp,go_sem,hlt,hkk]
    refine ta 13 (.pointer (some ⟨ab,off+k*5+3,none⟩)) hS λhS=>?_
    refine tk 14 (.agg #[.int .i64 f2,.slice A2 ys2.length c2]) hS ?_ λhS=>?_
    . intro w' L hn hw;have q3:=(hw.cell (p:=⟨ab,off+k*5+3,none⟩) (show ab<wr.heap.size by omega)).trans K3.out;have q4:=(hw.cell (p:=⟨ab,off+k*5+4,none⟩) (show ab<wr.heap.size by omega)).trans K4.out;simp[execOp,go_sem,q3,q4]
    refine ta 17 (.slice (some ⟨ab,off,none⟩) c.length cp) hS λhS=>?_
    refine ta 18 (.int .i64 (k:Nat)) hS λhS=>?_
    refine tk 19 (.pointer (some ⟨ab,off+k*5,none⟩)) hS ?_ λhS=>?_
    . intros;simp[execOp,go_sem,hlt,hkk]
    refine ta 20 (.pointer (some ⟨ab,off+k*5,none⟩)) hS λhS=>?_
    refine tk 21 (.bool true) hS ?_ λhS=>?_
    . intro w' L hn hw;have q0:=(hw.cell (p:=⟨ab,off+k*5,none⟩) (show ab<wr.heap.size by omega)).trans K0.out;simp[execOp,go_sem,q0]
    refine so 7 ?_;have hbd4:Below wr.heap.size wr wd:=hwd ▸ hbd;refine aG ?_ (Hc1.out wd hbd4) ?_
    . simp[execOp,resolve,invoke,go_sem]
    rintro e w6 ⟨rfl,hb6⟩;refine⟨_,rfl,?_⟩;refine gS ?_ λhS=>?_
    . exact hS.trans (hb6.mono hS.size)
    refine so 15 ?_;have hbd4:Below wr.heap.size wr w6:=hS;refine aG ?_ (Hc2.out w6 hbd4) ?_
    . simp[execOp,resolve,invoke,go_sem]
    rintro e w7 ⟨rfl,hb7⟩;refine⟨_,rfl,?_⟩;refine gS ?_ λhS=>?_
    . exact hS.trans (hb7.mono hS.size)
    refine tk 16 (.bool false) hS ?_ λhS=>?_
    . intros;simp[execOp,go_sem,h12]
    refine ta 22 (.bool true) hS λhS=>?_
    refine dn ?_;have HS:=Lh hS;have hbz:=hS.size;clear hS hwd hbd;go_wp2_with fail;go_ret;have ha:jY (cN N tab) (dQ E) c=true:=List.any_eq_true.2 ⟨_,List.getElem_mem hlt,Hbl.out⟩;rw[ha];exact⟨rfl,Hbr.out.trans (HS.out.mono Hbr.out.size)⟩
   | false=>
    have Hbl:=Lh hbl;clear hbl;go_upto_region 4 with fail
    clear x10 x11;refine rg 23 (λ_ w'=>Below wr.heap.size wr w') ?_;intro wd hwd hbd;refine⟨?_,λhS=>?_⟩
    . exact hwd ▸ hbd
    refine tk 0 (.agg #[.int .i64 (N:Nat),.slice At tab.length ct]) hS ?_ λhS=>?_
    . intro w' L hn hw;obtain⟨o1,o2,-⟩:=(hx1r.low hw).cells;simp[execOp,go_sem,o1,o2]
    refine ta 1 (.slice Ae 48 ce) hS λhS=>?_
    refine ta 2 (.slice (some ⟨ab,off,none⟩) c.length cp) hS λhS=>?_
    refine ta 3 (.int .i64 (k:Nat)) hS λhS=>?_
    refine tk 4 (.pointer (some ⟨ab,off+k*5,none⟩)) hS ?_ λhS=>?_
    . intros;simp[execOp,go_sem,hlt,hkk]
    refine ta 5 (.pointer (some ⟨ab,off+k*5+1,none⟩)) hS λhS=>?_
    refine tk 6 (.agg #[.int .i64 f1,.slice A1 ys1.length c1]) hS ?_ λhS=>?_
    . intro w' L hn hw;have q1:=(hw.cell (p:=⟨ab,off+k*5+1,none⟩) (show ab<wr.heap.size by omega)).trans K1.out;have q2:=(hw.cell (p:=⟨ab,off+k*5+2,none⟩) (show ab<wr.heap.size by omega)).trans K2.out;simp[execOp,go_sem,q1,q2]
    refine tk 8 (.agg #[.int .i64 (N:Nat),.slice At tab.length ct]) hS ?_ λhS=>?_
    . intro w' L hn hw;obtain⟨o1,o2,-⟩:=(hx1r.low hw).cells;simp[execOp,go_sem,o1,o2]
    refine ta 9 (.slice Ae 48 ce) hS λhS=>?_
    refine ta 10 (.slice (some ⟨ab,off,none⟩) c.length cp) hS λhS=>?_
    refine ta 11 (.int .i64 (k:Nat)) hS λhS=>?_
    refine tk 12 (.pointer (some ⟨ab,off+k*5,none⟩)) hS ?_ λhS=>?_
    . intros;simp[execOp,go_sem,hlt,hkk]
    refine ta 13 (.pointer (some ⟨ab,off+k*5+3,none⟩)) hS λhS=>?_
    refine tk 14 (.agg #[.int .i64 f2,.slice A2 ys2.length c2]) hS ?_ λhS=>?_
    . intro w' L hn hw;have q3:=(hw.cell (p:=⟨ab,off+k*5+3,none⟩) (show ab<wr.heap.size by omega)).trans K3.out;have q4:=(hw.cell (p:=⟨ab,off+k*5+4,none⟩) (show ab<wr.heap.size by omega)).trans K4.out;simp[execOp,go_sem,q3,q4]
    refine ta 17 (.slice (some ⟨ab,off,none⟩) c.length cp) hS λhS=>?_
    refine ta 18 (.int .i64 (k:Nat)) hS λhS=>?_
    refine tk 19 (.pointer (some ⟨ab,off+k*5,none⟩)) hS ?_ λhS=>?_
    . intros;simp[execOp,go_sem,hlt,hkk]
    refine ta 20 (.pointer (some ⟨ab,off+k*5,none⟩)) hS λhS=>?_
    refine tk 21 (.bool false) hS ?_ λhS=>?_
    . intro w' L hn hw;have q0:=(hw.cell (p:=⟨ab,off+k*5,none⟩) (show ab<wr.heap.size by omega)).trans K0.out;simp[execOp,go_sem,q0]
    refine so 7 ?_;have hbd4:Below wr.heap.size wr wd:=hwd ▸ hbd;refine aG ?_ (Hc1.out wd hbd4) ?_
    . simp[execOp,resolve,invoke,go_sem]
    rintro e w6 ⟨rfl,hb6⟩;refine⟨_,rfl,?_⟩;refine gS ?_ λhS=>?_
    . exact hS.trans (hb6.mono hS.size)
    refine so 15 ?_;have hbd4:Below wr.heap.size wr w6:=hS;refine aG ?_ (Hc2.out w6 hbd4) ?_
    . simp[execOp,resolve,invoke,go_sem]
    rintro e w7 ⟨rfl,hb7⟩;refine⟨_,rfl,?_⟩;refine gS ?_ λhS=>?_
    . exact hS.trans (hb7.mono hS.size)
    refine tk 16 (.bool false) hS ?_ λhS=>?_
    . intros;simp[execOp,go_sem,h12]
    refine ta 22 (.bool false) hS λhS=>?_
    refine dn ?_;have HS:=Lh hS;have hbz:=hS.size;clear hS hwd hbd;go_wp2_with fail;go_roundw
    case rel=>
     refine⟨k+1,by omega,by go_num,λj hj hjk=>?_,Hup.out.trans (HS.out.mono hzr)⟩;by_cases e:j=k
     . subst e;exact Hbl.out
     exact Hall.out j hj (by omega)
    case measure=>simp[intOf];omega
 have ha:jY (cN N tab) (dQ E) c=false:=List.any_eq_false.2 λx hx=>by
  obtain⟨j,hj,rfl⟩:=List.mem_iff_getElem.1 hx;rw[Hall.out j hj (by omega)];decide
 have Ha:=Lh ha;clear ha;go_wp2_with fail;go_ret;rw[Ha.out];exact⟨rfl,Hbr.out⟩
noncomputable def nK (I:Itp)(c:Cl):Bool:= @decide (eH I c) (Classical.propDecidable _)
theorem kT (I:Itp)(c:Cl):nK I c=true↔eH I c:=by
 unfold nK;exact @decide_eq_true_iff _ (Classical.propDecidable _)
def bZ (l:List Int):List (List Value):=(l.map λn=>Value.int .i64 n).map λu=>[u]
theorem bU (l:List Int):(bZ l).length=l.length:=by simp[bZ]
theorem eS (l:List Int)(n:Int):bZ (l++[n])=bZ l++[[.int .i64 n]]:=by simp[bZ]
theorem tB {l:List Int} {w:World} {base n c j:Nat} {A:Option Addr} (h:Own w base 3 1 (.slice A n c) (bZ l))(hj:j<l.length):
 ∃g,A=some ⟨g,0,none⟩/\base<=g/\g<w.heap.size/\w.cell? ⟨g,j,none⟩=some (.int .i64 l[j])/\w.frozen? ⟨g,j,none⟩=false:=by
 obtain⟨g,hg,hb,hl,hc,hf⟩:=h.row_at (k:=j) (by rw[bU];exact hj) (by omega);have h1:=hc 0 (by omega);have h2:=hf 0 (by omega);simp only[Nat.mul_one,Nat.add_zero]at h1 h2;exact⟨g,hg,hb,hl,h1.trans (by simp[bZ]),h2⟩
theorem yR {l:List Int} {w:World} {base g n c j:Nat} (h:Own w base 3 1 (.slice (some ⟨g,0,none⟩) n c) (bZ l))(u:Int):
 Own (w.setCell ⟨g,j,none⟩ (.int .i64 u)) base 3 1 (.slice (some ⟨g,0,none⟩) n c) (bZ (l.set j u)):=by
 have:=h.set1 (j:=j) (.int .i64 u);unfold bZ;rw[List.map_set];exact this
theorem nV {l:List Int} {w:World} {base:Nat} {v:Value} (h:Own w base 3 1 v (bZ l))(hl:l.length<=100000000):Rd w w.heap.size (bM l) v:=by
 have:=h.rd (by rw[bU];omega);unfold bM;have e:((bZ l).map λr=>r.map Tr.leaf)=l.map λn=>[Tr.leaf (.int .i64 n)]:=by simp[bZ]
 rwa [e]at this
theorem wS:∀(l:List Bool) (n:Nat),(eU l n).length<=l.length
 | [],n=>by rw[eU];exact Nat.le_refl _
 | b::l,n=>by
  rw[eU];have:=wS l (n+1);cases b with
  | false=>rw[if_neg (by decide),List.length_cons];omega
  | true=>rw[if_pos rfl,List.length_cons,List.length_cons];omega
theorem aD7 (w:World):∃w',(Instr.makeSlice 41 (.int .i64 48) (.int .i64 48)).run Try.prog w=.ok (.slice (some ⟨w.heap.size,0,none⟩) 48 48) w'/\Own w' w.heap.size 3 1 (.slice (some ⟨w.heap.size,0,none⟩) 48 48) (bZ (List.replicate 48 0))/\Below w.heap.size w w':=by
 obtain⟨w',h1,h2,h3⟩:=wX (z:=.int .i64 0) (bytes:=8) w Try.underlying41 (by kernel_rfl) (by omega) rfl;exact⟨w',h1,by unfold bZ;rw[List.map_replicate];exact h2,h3⟩
theorem aA4 {N j:Nat} (hN:N<=10)(hN0:1<=N)(hj:j<=8):N ^ j<=1000000000000:=
 Nat.le_trans (Nat.pow_le_pow_left hN j) (Nat.le_trans (Nat.pow_le_pow_right (by omega) hj) (by decide))
theorem aL6 {q N:Nat}:Int.tmod (q:Int) (N:Int)=((q % N:Nat):Int):=(Int.ofNat_tmod q N).symm
theorem aL5 {q N:Nat} (hq:q<=1000000000000):IntKind.i64.wrap (Int.tdiv (q:Int) (N:Int))=((q / N:Nat):Int):=by
 rw[<-Int.ofNat_tdiv];have:=Nat.div_le_self q N;generalize q / N=d at this ⊢;exact IntWalk.i64_in _ (by omega)
theorem not_true {N:Nat} {tab:List (List Int)} {c:Cl} {E:List Int} (hN:1<=N)(hv:∀v∈E,0<=v/\v<(N:Int))(h:jY (cN N tab) (dQ E) c=false):nK (cN N tab) c=false:=by
 rw[Bool.eq_false_iff];intro ht;have:=(qG _ _ _).2 ((kT _ _).1 ht (dQ E) (aH0 hN hv));rw[h]at this;cases this
theorem aL7 {N:Nat} {E:List Int} {j:Nat} {d:Int} (hv:∀v∈E,0<=v/\v<(N:Int))(hd:0<=d/\d<(N:Int)):∀v∈E.set j d,0<=v/\v<(N:Int):=λv h=>by
 rcases List.mem_or_eq_of_mem_set h with h | rfl
 . exact hv v h
 exact hd
theorem lZ (sig:List Sy)(N:Nat)(tab:List (List Int))(hW:RightW sig N tab)(hN:N<=10)(c:Cl)(hfit:∀x∈c,(bQ (fP sig) x.l/\fM 48 x.l=true)/\(bQ (fP sig) x.r/\fM 48 x.r=true))(h8:(jS c).length<=8)
 (v vt:Value) (B:Nat) (w:World) (hr:Rd w B (aT c) v) (hrt:Rd w B (iX tab) vt) (hB:B<=w.heap.size):
 Calls Try.prog 13 #[.agg #[.int .i64 (N:Nat),vt],v] w (aP (nK (cN N tab) c) w):=by
 obtain⟨Ac,cp,rfl,hc,hn,hm⟩:=Rd.cl_form hr;obtain⟨At,ct,rfl,-,-,-⟩:=Rd.row_form (show Rd w B (.sl 1 (tab.map λr=>[bM r])) vt from hrt);have hocc:∀j,pE j c=true->j<48:=λj hj=>by
  unfold pE at hj;obtain⟨x,hx,h⟩:=List.any_eq_true.1 hj;rw[Bool.or_eq_true]at h;rcases h with h | h
  . exact vF _ _ (hfit x hx).1.2 h
  exact vF _ _ (hfit x hx).2.2 h
 have hN0:=hW.n0;have H3:=Lh hr;have HT:=Lh hrt;have Hfit:=Lh hfit;have Hocc:=Lh hocc;have H8:=Lh h8;clear hr hrt hfit hocc h8;go_enter Try.func13,Try.ntmps13;go_upto_region 1 with fail
 have hb1:=aD w (.cells #[.int .i64 (N:Nat),.slice At tab.length ct] 27);have hx1:aL w.heap.size 27 (.int .i64 (N:Nat)) (.slice At tab.length ct) (w.alloc (.cells #[.int .i64 (N:Nat),.slice At tab.length ct] 27)):=heap_alloc_new w _;have hz1:(w.alloc (.cells #[.int .i64 (N:Nat),.slice At tab.length ct] 27)).heap.size=w.heap.size+1:=by simp
 generalize w.alloc (.cells #[.int .i64 (N:Nat),.slice At tab.length ct] 27)=w1 at hx1 hb1 hz1 ⊢;obtain⟨w2,hmk,hm2,hb2⟩:=qK w1;have hz2:=hb2.size;have hg2:=hm2.lt;obtain⟨g,hg⟩:∃g,w1.heap.size=g:=⟨_,rfl⟩;rw[hg]at hmk hm2 hz2 hg2;have hx2:=hx1.low hb2;have hbw:Below w.heap.size w w2:=hb1.trans (hb2.mono (by omega));have HX1:=Lh hx2;have HB2:=Lh hbw;have HM2:=Lh hm2;clear hx1 hb1 hx2 hbw hm2 hb2;go_wp2_with fail;clear hmk;go_loopw [6] (λi wr=>∃k:Nat,k<=c.length/\i=.int .i64 k/\dD g g 48 (eF (c.take k) (List.replicate 48 false)) wr/\Upd w2 wr (λk=>k=g)) (λi _=>c.length-(intOf i).toNat)
 case atStart=>exact⟨0,Nat.zero_le _,rfl,by rw[List.take_zero,eF];exact HM2.out,Upd.refl _ _⟩
 obtain⟨k,hk2,rfl,hmr,hup⟩:=hrel;have hzr:=hup.size;have Hmr:=Lh hmr;have Hup:=Lh hup;have hbr:Below w.heap.size w wr:=HB2.out.trans (hup.toLow (by omega) (λk e=>by omega));have Hbr:=Lh hbr;clear hmr hup hbr;by_cases hlt:k<c.length
 . obtain⟨ab,off,n0,f1,ys1,A1,c1,f2,ys2,A2,c2,rfl,hxk,hab,k0,k1,k2,k3,k4,hr1,hr2⟩:=(H3.out.low Hbr.out hB).lt_at hlt;have hl12:=Hfit.out c[k] (List.getElem_mem hlt);rw[hxk]at hl12;have Hl1:=Lh hl12.1.2;have Hl2:=Lh hl12.2.2;have Hxk:=Lh hxk;have HR1:=Lh hr1;have HR2:=Lh hr2;have K3:=Lh k3;have K4:=Lh k4;have hkk:¬((c.length:Int)<=(k:Int)):=by omega
   clear hl12 hxk hr1 hr2 k0 k3 k4;go_wp2_with fail;refine(nN g 48 g (aI ys1+1) f1 ys1 _ B wr _ (by omega) Hl1.out HR1.out (by omega) (by omega) Hmr.out).mono ?_;rintro e w7 ⟨rfl,hm7,hu7⟩;have hb7:=hu7.toLow (B:=g) (by omega) (λk e=>by omega);have p3:=(hb7.cell (p:=⟨ab,off+k*5+3,none⟩) (show ab<g by omega)).trans K3.out;have p4:=(hb7.cell (p:=⟨ab,off+k*5+4,none⟩) (show ab<g by omega)).trans K4.out;have d2:=HR2.out.low hb7 (by omega);have D2:=Lh d2;have M7:=Lh hm7;have U7:=Lh hu7;have hz7:=hu7.size;clear d2 hm7 hu7 hb7;go_wp2_with fail;refine(nN g 48 g (aI ys2+1) f2 ys2 _ B w7 _ (by omega) Hl2.out D2.out (by omega) (by omega) M7.out).mono ?_;rintro e w8 ⟨rfl,hm8,hu8⟩;have M8:=Lh hm8;have U8:=Lh hu8;clear hm8 hu8;go_wp2_with fail;go_roundw
   case rel=>
    refine⟨k+1,by omega,by go_num,?_,Hup.out.trans (U7.out.trans U8.out (λi e=>.inl e)) (λi e=>.inl e)⟩;rw[qO hlt,Hxk.out];exact M8.out
   case measure=>simp[intOf];omega
 have e:c.take k=c:=List.take_of_length_le (by omega);rw[e]at Hmr;have hmm:dD g g 48 (jP c) wr:=Hmr.out;have Hmm:=Lh hmm;have hml:=oA c;have hvc:jS c=eU (jP c) 0:=rfl;have Hvc:=Lh hvc;clear Hmr hmm e hvc;obtain⟨m,hm9⟩:∃m,jP c=m:=⟨_,rfl⟩;rw[hm9]at Hmm hml Hvc;have hx3:=HX1.out.upd Hup.out (by omega);go_wp2_with fail;obtain⟨wo,hwo⟩:∃wo:World,wo=wr:=⟨_,rfl⟩;rw[<-hwo]at Hmm Hbr hx3;have HX3:=Lh hx3;have hzo:g<wo.heap.size:=by rw[hwo];omega
 have Hb00:=Lh (show Below wo.heap.size wo wr from by rw[hwo];exact Below.refl _ _);clear hx3 Hup hwo;go_loopw [7,8] (λu i wr=>∃k:Nat,k<=48/\i=.int .i64 k/\Own wr wo.heap.size 3 1 u (bZ ((eU (m.take k) 0).map λn:Nat=>(n:Int)))/\Below wo.heap.size wo wr) (λ_ i _=>48-(intOf i).toNat)
 case atStart=>exact⟨0,Nat.zero_le _,rfl,Own.nil _ _ _ _,Hb00.out⟩
 obtain⟨k,hk3,rfl,hown,hbel⟩:=hrel;have hzr:=hbel.size;have hurt:=hown.lt;have Hurt:=Lh hurt;have Hown:=Lh hown;have Hbel:=Lh hbel;clear hown hbel hurt;by_cases hlt3:k<48
 . have hlt4:k<m.length:=by omega
   obtain⟨t0,-⟩:=(Hmm.out.low Hbel.out).at_ hlt4;have hst:=tC hlt4;have hil:=wS (m.take k) 0;rw[List.length_take]at hil;have hil2:(eU (m.take k) 0).length<=48:=by omega
   obtain⟨bk,hbk⟩:∃b,m[k]=b:=⟨_,rfl⟩;rw[hbk]at t0 hst;have Hst:=Lh hst;have Hil:=Lh hil2;clear hst hbk hil hil2;have hk5:(k:Int)<48:=by omega
   have hk6:¬((48:Int)<=(k:Int)):=by omega
   cases bk with
   | true=>
    go_wp2_with (
     at_builtin
     refine bN _ rfl (.tmp 45) (.tmp 47) _ rfl nsT (base:=wo.heap.size) (v:=u7) (rows:=bZ ((eU (m.take k) 0).map λn:Nat=>(n:Int))) rfl (Hown.out.alloc _) (g:=wr.heap.size) (cells:= #[.int .i64 (k:Nat)]) rfl (heap_alloc_new wr _) rfl (by intro y hy;simp at hy;rcases hy with rfl;rfl) (by rw[bU,List.length_map];have:=Hil.out;omega) (by rw[bU,List.length_map];have:=Hil.out;unfold maxLen;omega) (by simp;omega) ?_;intro y2 w5 hown5 hup5 hat5;have Hown5:=Lh hown5;have Hup5:=Lh hup5;clear hown5 hup5 hat5)
    go_roundw
    case rel=>
     refine⟨k+1,by omega,by go_num,?_,?_⟩
     . rw[Hst.out,if_pos rfl,List.map_append,List.map_cons,List.map_nil,eS];exact Hown5.out
     exact Hbel.out.trans (((aD wr _).mono hzr).trans (Hup5.out.toLow (by simp;omega) (λk e=>(Hurt.out k e).1)))
    case measure=>simp[intOf];omega
   | false=>
    go_wp2_with fail;go_roundw
    case rel=>exact⟨k+1,by omega,by go_num,by rw[Hst.out,if_neg (by decide)];exact Hown.out,Hbel.out⟩
    case measure=>simp[intOf];omega
 have e:m.take k=m:=List.take_of_length_le (by omega);rw[e,<-Hvc.out]at Hown;have hk6:¬((k:Int)<48):=by omega
 obtain⟨vs,hvs⟩:∃vs,jS c=vs:=⟨_,rfl⟩;have hnd:vs.Nodup:=by rw[<-hvs];exact jA _ _
 have hv48:∀j∈vs,j<48:=λj hj=>by rw[<-hvs]at hj;exact((rV c j).1 hj).1
 have h8:=H8.out;rw[hvs]at Hown h8;have Hvs:=Lh hvs;have Hnd:=Lh hnd;have Hv48:=Lh hv48;clear e Hvc hvs hnd hv48;obtain⟨Al,cl,rfl,hlc,hlm⟩:=Hown.out.form;rw[bU,List.length_map]at hlc;have Hown2:=Lh (show Own wr wo.heap.size 3 1 (.slice Al vs.length cl) (bZ (vs.map λn:Nat=>(n:Int)))from by have:=Hown.out;rw[bU,List.length_map]at this;exact this);rw[bU,List.length_map];clear Hown;obtain⟨w3,hmk3,hm3,hb3⟩:=aD7 wr;obtain⟨ge,hge⟩:∃g,wr.heap.size=g:=⟨_,rfl⟩;rw[hge]at hmk3 hm3;have hz3:=hb3.size;have hg3:=hm3.lt ge rfl;have hx4:=(HX3.out.low Hbel.out).low hb3;obtain⟨x10,x11,-⟩:=hx4.cells;have HX4:=Lh hx4;have HM3:=Lh hm3;have Hown3:=Lh (Hown2.out.low hb3);have hbo:Below w.heap.size w w3:=Hbr.out.trans ((Hbel.out.trans (hb3.mono (by omega))).mono Hbr.out.size);have HBO:=Lh hbo;have hzb:=Hbr.out.size;clear hx4 hm3 hb3 hbo;obtain⟨pn,hpn⟩:∃p,N ^ vs.length=p:=⟨_,rfl⟩;have hpw:=tO N vs.length w3 (λj hj=>aA4 hN hN0 (by omega)) (by omega) (by omega);have hpl:=aA4 hN hN0 (j:=vs.length) (by omega);rw[hpn]at hpw hpl;have Hpw:=Lh hpw;have Hpn:=Lh hpn;clear hpw hpn;go_wp2_with fail;refine Hpw.out.mono ?_;rintro e w4 ⟨rfl,hb4⟩;have hz4:=hb4.size;have hx4:=HX4.out.low hb4;have HX5:=Lh hx4;have HM4:=Lh (HM3.out.low hb4);have Hown4:=Lh (Hown3.out.low hb4);have HBO4:=Lh (HBO.out.trans (hb4.mono (by omega)));have Hlt:=Lh (show ∀g',(Value.slice Al vs.length cl).ownBlock=some g'->g'<ge from λg' e=>by have:=(Hown2.out.lt g' e).2;omega);clear hb4 hx4 Hpw x10 x11 HX4 HM3 Hown3 HBO Hown2 hmk3;go_wp2_with fail;go_loopw [11] (λi wr=>∃(k:Nat) (E:List Int),k<=pn/\i=.int .i64 k/\E.length=48/\(∀v∈E,0<=v/\v<(N:Int))/\Own wr ge 3 1 (.slice (some ⟨ge,0,none⟩) 48 48) (bZ E)/\(∀k',k'<k->∃E,aN3 N vs k' E/\eQ (cN N tab) (dQ E) c)/\Upd w4 wr (λb=>b=ge)) (λi _=>pn-(intOf i).toNat)
 case atStart=>
  exact⟨0,List.replicate 48 0,Nat.zero_le _,rfl,List.length_replicate,λv hv=>by rw[List.eq_of_mem_replicate hv];omega,HM4.out,λk' h=>by omega,Upd.refl _ _⟩
 obtain⟨k,E0,hkp,rfl,hE0,hEv0,hown0,hall,hup0⟩:=hrel;have HE0:=Lh hE0;have HEv0:=Lh hEv0;have Hown0:=Lh hown0;have Hall:=Lh hall;have Hup0:=Lh hup0;clear hE0 hEv0 hown0 hall hup0;by_cases hltp:k<pn
 . go_wp2_with fail;obtain⟨wp,hwp⟩:∃wp:World,wp=wr:=⟨_,rfl⟩;rw[<-hwp]at Hown0 Hup0;have HP:=Lh hwp;clear hwp;go_loopw [12,13] (λx i wr=>∃(j q:Nat) (E:List Int),j<=vs.length/\i=.int .i64 j/\x=.int .i64 q/\q=k / N ^ j/\E.length=48/\(∀v∈E,0<=v/\v<(N:Int))/\Own wr ge 3 1 (.slice (some ⟨ge,0,none⟩) 48 48) (bZ E)/\(∀l (h:l<vs.length),l<j->E[vs[l]]? =some ((sU N k l:Nat):Int))/\Upd w4 wr (λb=>b=ge)) (λ_ i _=>vs.length-(intOf i).toNat)
   case atStart=>
    exact⟨0,k,E0,Nat.zero_le _,rfl,rfl,by simp,HE0.out,HEv0.out,by rw[<-HP.out];exact Hown0.out,λl _ h=>by omega,by rw[<-HP.out];exact Hup0.out⟩
   obtain⟨j,q,E,hj,rfl,rfl,hq,hE,hEv,hown,hdig,hup⟩:=hrel;have hqk:q<=k:=by rw[hq];exact Nat.div_le_self _ _
   have hzr:=hup.size;have hxr:=HX5.out.upd hup (by omega);have HXr:=Lh hxr;obtain⟨x10,x11,-⟩:=hxr.cells;have howl:=Hown4.out.upd hup (λg' e e2=>by have:=Hlt.out g' e;omega);have Hq:=Lh hq;have HE:=Lh hE;have HEv:=Lh hEv;have Hown:=Lh hown;have Howl:=Lh howl;have Hdig:=Lh hdig;have Hup:=Lh hup;clear hq hE hEv hown howl hdig hup hxr;by_cases hjl:j<vs.length
   . obtain⟨vj,hvj⟩:∃v,vs[j]=v:=⟨_,rfl⟩;have hv48:vj<48:=(by rw[<-hvj];exact Hv48.out _ (List.getElem_mem hjl));obtain⟨gl,hgl,hgl0,hgl1,l0,-⟩:=tB (j:=j) Howl.out (by rw[List.length_map];exact hjl);subst hgl;rw[List.getElem_map,hvj]at l0;obtain⟨d,hd⟩:∃d,q % N=d:=⟨_,rfl⟩;have htm:Int.tmod (q:Int) (N:Int)=(d:Int):=(by rw[aL6,hd]);obtain⟨q2,hq2⟩:∃d,q / N=d:=⟨_,rfl⟩;have hquo:IntKind.i64.wrap (Int.tdiv (q:Int) (N:Int))=(q2:Int):=(by rw[aL5 (by omega),hq2]);have hqb:q2<=q:=(by rw[<-hq2];exact Nat.div_le_self _ _);have hquo2:wrap64 ((q:Int) / (N:Int))=(q2:Int):=by
      rw[show (q:Int) / (N:Int)=((q / N:Nat):Int)from rfl,hq2];unfold wrap64;omega
     have Hquo2:=Lh hquo2;clear hquo hquo2;have hN00:¬N=0:=(by omega);have hv1:(vj:Int)<48:=(by omega);have hv2:¬(48:Int)<=(vj:Int):=(by omega);have hjj:¬((vs.length:Int)<=(j:Int)):=(by omega);have L0:=Lh l0;have Hvj:=Lh hvj;have Hd:=Lh hd;have Hq2:=Lh hq2;clear l0 hvj hd hq2;go_upto_region 22 with fail
     clear x10 x11;refine rg 11 (λL w'=>L.getD 10 false=false->Below wr.heap.size wr w') ?_;intro wd hwd hbd;refine⟨?_,λhS=>?_⟩
     . exact λ_=>hwd ▸ hbd
     refine ta 0 (.slice (some ⟨ge,0,none⟩) 48 48) hS (λhS=>?_) (hins:=λL w=>by simp only[aB (l:=L) (i:=0) (k:=10) (by decide)]);refine ta 1 (.slice (some ⟨gl,0,none⟩) vs.length cl) hS (λhS=>?_) (hins:=λL w=>by simp only[aB (l:=L) (i:=1) (k:=10) (by decide)]);refine ta 2 (.int .i64 (j:Nat)) hS (λhS=>?_) (hins:=λL w=>by simp only[aB (l:=L) (i:=2) (k:=10) (by decide)]);refine tk 3 (.pointer (some ⟨gl,j,none⟩)) hS ?_ (λhS=>?_) (hins:=λL w=>by simp only[aB (l:=L) (i:=3) (k:=10) (by decide)])
     . intro w' L hn hw;have n10:=hn.flag 10 (by kernel_rfl);simp[execOp,go_sem,hjl,hjj]
     refine tk 4 (.int .i64 (vj:Nat)) hS ?_ (λhS=>?_) (hins:=λL w=>by simp only[aB (l:=L) (i:=4) (k:=10) (by decide)])
     . intro w' L hn hw;have n10:=hn.flag 10 (by kernel_rfl);have hw:=hw n10;have q0:=(hw.cell (p:=⟨gl,j,none⟩) (show gl<wr.heap.size by omega)).trans L0.out;simp[execOp,go_sem,q0]
     refine ta 5 (.int .i64 (q:Nat)) hS (λhS=>?_) (hins:=λL w=>by simp only[aB (l:=L) (i:=5) (k:=10) (by decide)]);refine tk 6 (.pointer (some ⟨w.heap.size,0,none⟩)) hS ?_ (λhS=>?_) (hins:=λL w=>by simp only[aB (l:=L) (i:=6) (k:=10) (by decide)])
     . intro w' L hn hw;have n10:=hn.flag 10 (by kernel_rfl);simp[execOp,go_sem]
     refine tk 7 (.int .i64 (N:Nat)) hS ?_ (λhS=>?_) (hins:=λL w=>by simp only[aB (l:=L) (i:=7) (k:=10) (by decide)])
     . intro w' L hn hw;have n10:=hn.flag 10 (by kernel_rfl);have hw:=hw n10;have o1:=(HXr.out.low hw).cells;simp[execOp,go_sem,o1.1]
     refine tk 8 (.int .i64 (d:Nat)) hS ?_ (λhS=>?_) (hins:=λL w=>by simp only[aB (l:=L) (i:=8) (k:=10) (by decide)])
     . intro w' L hn hw;have n10:=hn.flag 10 (by kernel_rfl);simp[execOp,go_sem,hN00,htm]
     refine tk 9 (.pointer (some ⟨ge,vj,none⟩)) hS ?_ (λhS=>?_) (hins:=λL w=>by simp only[aB (l:=L) (i:=9) (k:=10) (by decide)])
     . intro w' L hn hw;have n10:=hn.flag 10 (by kernel_rfl);simp[execOp,go_sem,hv1,hv2]
     refine so 10 ?_;have hbd4:Below wr.heap.size wr wd:=hwd ▸ hbd;obtain⟨g9,hg9,-,-,e0,e1⟩:=tB (j:=vj) (Hown.out.low hbd4) (by rw[HE.out];exact hv48);cases hg9;refine bF (w':=wd.setCell ⟨ge,vj,none⟩ (.int .i64 (d:Nat))) (by simp[execOp,go_sem,e0,e1]) ?_;have hset:=yR (j:=vj) (Hown.out.low hbd4) (d:Int);have hu10:Upd wd (wd.setCell ⟨ge,vj,none⟩ (.int .i64 (d:Nat))) (λb=>b=ge):=aM _;generalize wd.setCell ⟨ge,vj,none⟩ (.int .i64 (d:Nat))=w10 at hset hu10 ⊢;refine gS ?_ λhS=>?_
     . exact λh=>by cases h
     refine dn ?_;have hup10:Upd w4 w10 (λb=>b=ge):=(Hup.out.trans (Upd.low hbd4 (λb=>b=ge)) (λi e=>.inl e)).trans hu10 (λi e=>.inl e);obtain⟨x10,x11,-⟩:=(HX5.out.upd hup10 (by omega)).cells;have Hset:=Lh hset;have Hup10:=Lh hup10;clear hset hu10 hup10 hS hwd hbd hbd4 e0 e1;go_wp2_with fail;go_roundw
     case rel=>
      refine⟨j+1,q2,E.set vj (d:Int),by omega,by go_num,by rw[Hquo2.out],by rw[<-Hq2.out,Hq.out,Nat.div_div_eq_div_mul,Nat.pow_succ],by rw[List.length_set];exact HE.out,aL7 HEv.out ⟨by omega,by have:=Nat.mod_lt q (show N>0 by omega);have:=Hd.out;omega⟩,Hset.out,λl hl hlj=>?_,Hup10.out⟩;rw[List.getElem?_set];by_cases el:l=j
      . subst el;rw[if_pos Hvj.out.symm,if_pos (by rw[HE.out];exact hv48)];unfold sU;rw[<-Hq.out,Hd.out]
      rw[if_neg (λe=>el ((List.getElem_inj (h₀:=hl) (h₁:=hjl) Hnd.out).1 (by rw[Hvj.out];exact e.symm)))];exact Hdig.out l hl (by omega)
     case measure=>simp[intOf];omega
   have hdg:aN3 N vs k E:=⟨HE.out,HEv.out,λl hl=>Hdig.out l hl (by omega)⟩;have Hdg:=Lh hdg;have hrE:=nV Hown.out (by rw[HE.out];omega);have hb4r:Below w.heap.size w wr:=HBO4.out.trans (Hup.out.toLow (by omega) (λk e=>by omega));have hcl:=aC7 sig N tab E hW HE.out HEv.out c Hfit.out _ _ _ wr.heap.size wr ((H3.out.low hb4r hB).more (by omega)) ((HT.out.low hb4r hB).more (by omega)) hrE (Nat.le_refl _);obtain⟨bh,hbh⟩:∃b,jY (cN N tab) (dQ E) c=b:=⟨_,rfl⟩;rw[hbh]at hcl;have Hcl:=Lh hcl;have Hbh:=Lh hbh;have Hb4r:=Lh hb4r;clear hdg hrE hcl hbh hb4r;go_wp2_with fail;refine Hcl.out.mono ?_;rintro e w6 ⟨rfl,hb6⟩;have Hb6:=Lh hb6;clear hb6;cases bh with
   | false=>
    have hnt:=not_true hN0 HEv.out Hbh.out;have Hnt:=Lh hnt;clear hnt;go_wp2_with fail;go_ret;rw[Hnt.out];exact⟨rfl,Hb4r.out.trans (Hb6.out.mono Hb4r.out.size)⟩
   | true=>
    go_wp2_with fail;go_roundw
    case rel=>
     refine⟨k+1,E,by omega,by go_num,HE.out,HEv.out,Hown.out.low Hb6.out,λk' hk'=>?_,Hup.out.trans (Upd.low Hb6.out (λb=>b=ge)) (λi e=>.inl e)⟩;by_cases e:k'=k
     . subst e;exact⟨E,Hdg.out,(qG _ _ _).1 Hbh.out⟩
     exact Hall.out k' (by omega)
    case measure=>simp[intOf];omega
 have hpk:k=pn:=by omega
 have ht:nK (cN N tab) c=true:=(kT _ _).2 (aL8 hN0 Hocc.out (λk' h=>by
  rw[Hvs.out];rw[Hvs.out,Hpn.out]at h;exact Hall.out k' (by omega)))
 have Ht:=Lh ht;have hb4r:Below w.heap.size w wr:=HBO4.out.trans (Hup0.out.toLow (by omega) (λk e=>by omega));have Hb4r:=Lh hb4r;clear ht hb4r;go_wp2_with fail;go_ret;rw[Ht.out];exact⟨rfl,Hb4r.out⟩
def aG0 (p:Int->Prop)(n:Nat)(l:List Int)(w:World)(e:Ending)(w':World):Prop:=∃l' vo,e=.returned vo/\Below w.heap.size w w'/\JnR p n l l'/\Rd w' w'.heap.size (bM l') vo
theorem yS (l:List Int)(v:Int)(vl:Value)(B:Nat)(w:World)(hr:Rd w B (bM l) vl)(hl:l.length<=10000000)(hB:B<=w.heap.size):
 Calls Try.prog 40 #[vl,.int .i64 v] w (aG0 (λx=>x=v) 1 l w):=by
 obtain⟨A,c,rfl,-,-,-⟩:=Rd.row_form (show Rd w B (.sl 1 (l.map λn=>[.leaf (.int .i64 n)])) vl from hr);have Hr:=Lh hr;clear hr;go_enter Try.func40,Try.ntmps40;go_wp2_with fail;go_loopw [5,6,7] (λu b i wr=>∃(k:Nat) (d:Bool) (o:List Int),k<=l.length/\i=.int .i64 k/\b=.bool d/\Own wr w.heap.size 3 1 u (bZ o)/\jQ l v k d o/\(∀j (h:j<l.length),j<k->l[j]≠v)/\Below w.heap.size w wr) (λ_ _ i _=>l.length-(intOf i).toNat)
 case atStart=>exact⟨0,false,[],Nat.zero_le _,rfl,rfl,Own.nil _ _ _ _,jQ.start l v,λj _ h=>by omega,Below.refl _ _⟩
 obtain⟨k,d,o,hk,rfl,rfl,hown,hins,hne,hbel⟩:=hrel;have hzr:=hbel.size;have hol:=hins.len hk;have Hown:=Lh hown;have Hins:=Lh hins;have Hne:=Lh hne;have Hbel:=Lh hbel;clear hown hins hne hbel;by_cases hlt:k<l.length
 . obtain⟨ab,off,rfl,hab,c0⟩:=Rd.leaf_at (f:=λn=>.int .i64 n) (show Rd wr B (.sl 1 (l.map λn=>[.leaf (.int .i64 n)])) _ from Hr.out.low Hbel.out hB) hlt;have hnx:=Hins.out.next hlt;obtain⟨x,hx⟩:∃x,l[k]=x:=⟨_,rfl⟩;rw[hx]at c0 hnx;have c0:wr.cell? ⟨ab,off+k,none⟩=some (.int .i64 x):=c0;have Hx:=Lh hx;have Hnx:=Lh hnx;have C0:=Lh c0;clear hx hnx;by_cases he:x=v
   . go_wp2_with fail;go_ret;refine⟨l,_,rfl,Hbel.out,JnR.here (by rw[<-he,<-Hx.out];exact List.getElem_mem hlt),?_⟩;exact(Hr.out.low Hbel.out hB).more (by omega)
   by_cases hg:v<x
   . cases d with
     | false=>
      go_upto_region 11 with(
       skip
       at_builtin
       refine bN _ rfl (.tmp 31) (.tmp 33) _ rfl nsT (base:=w.heap.size) (v:=u5) (rows:=bZ (o)) rfl (Hown.out.alloc _) (g:=wr.heap.size) (cells:= #[.int .i64 v]) rfl (heap_alloc_new wr _) rfl (by intro y hy;simp at hy;rcases hy with rfl;rfl) (by rw[bU];(try simp only[List.length_append,List.length_singleton]);omega) (by rw[bU];unfold maxLen;(try simp only[List.length_append,List.length_singleton]);omega) (by simp;omega) ?_;intro y5 w5 hown hup hat;have hown:Own w5 w.heap.size 3 1 y5 (bZ ((o)++[v])):=(by rw[eS];exact hown);have Hown2:=Lh hown;have U5:=Lh (Below.trans ((aD wr _).mono (by omega)) (hup.toLow (B:=w.heap.size) (by simp;omega) (λk e=>(Hown.out.lt k e).1)));have z5:=hup.size;rw[cQ]at z5;clear hown hup hat
       )
      have c0:=(U5.out.cell (p:=⟨ab,off+k,none⟩) (show ab<w.heap.size by omega)).trans C0.out;go_wp2_with (
       skip
       at_builtin
       refine bN _ rfl (.tmp 35) (.tmp 40) _ rfl nsT (base:=w.heap.size) (v:=y5) (rows:=bZ (o++[v])) rfl (Hown2.out.alloc _) (g:=w5.heap.size) (cells:= #[.int .i64 x]) rfl (heap_alloc_new w5 _) rfl (by intro y hy;simp at hy;rcases hy with rfl;rfl) (by rw[bU];(try simp only[List.length_append,List.length_singleton]);omega) (by rw[bU];unfold maxLen;(try simp only[List.length_append,List.length_singleton]);omega) (by simp;omega) ?_;intro y6 w6 hown hup hat;have hown:Own w6 w.heap.size 3 1 y6 (bZ ((o++[v])++[x])):=(by rw[eS];exact hown);have Hown22:=Lh hown;have U6:=Lh (Below.trans ((aD w5 _).mono (by omega)) (hup.toLow (B:=w.heap.size) (by simp;omega) (λk e=>(Hown2.out.lt k e).1)));have z6:=hup.size;rw[cQ]at z6;clear hown hup hat
        )
      go_roundw
      case rel=>
       refine⟨k+1,true,_,by omega,by go_num,rfl,Hown22.out,?_,λj hj hjk=>?_,Hbel.out.trans (U5.out.trans U6.out)⟩
       . have:=(Hins.out.put).next hlt;rwa [Hx.out]at this
       by_cases e:j=k
       . subst e;rw[Hx.out];exact he
       exact Hne.out j hj (by omega)
      case measure=>simp[intOf];omega
     | true=>
      go_wp2_with (
       skip
       at_builtin
       refine bN _ rfl (.tmp 35) (.tmp 40) _ rfl nsT (base:=w.heap.size) (v:=u5) (rows:=bZ (o)) rfl (Hown.out.alloc _) (g:=wr.heap.size) (cells:= #[.int .i64 x]) rfl (heap_alloc_new wr _) rfl (by intro y hy;simp at hy;rcases hy with rfl;rfl) (by rw[bU];(try simp only[List.length_append,List.length_singleton]);omega) (by rw[bU];unfold maxLen;(try simp only[List.length_append,List.length_singleton]);omega) (by simp;omega) ?_;intro y6 w6 hown hup hat;have hown:Own w6 w.heap.size 3 1 y6 (bZ ((o)++[x])):=(by rw[eS];exact hown);have Hown2:=Lh hown;have U6:=Lh (Below.trans ((aD wr _).mono (by omega)) (hup.toLow (B:=w.heap.size) (by simp;omega) (λk e=>(Hown.out.lt k e).1)));have z6:=hup.size;rw[cQ]at z6;clear hown hup hat
        )
      go_roundw
      case rel=>
       refine⟨k+1,true,_,by omega,by go_num,rfl,Hown2.out,Hnx.out,λj hj hjk=>?_,Hbel.out.trans U6.out⟩;by_cases e:j=k
       . subst e;rw[Hx.out];exact he
       exact Hne.out j hj (by omega)
      case measure=>simp[intOf];omega
   go_wp2_with (
    skip
    at_builtin
    refine bN _ rfl (.tmp 35) (.tmp 40) _ rfl nsT (base:=w.heap.size) (v:=u5) (rows:=bZ (o)) rfl (Hown.out.alloc _) (g:=wr.heap.size) (cells:= #[.int .i64 x]) rfl (heap_alloc_new wr _) rfl (by intro y hy;simp at hy;rcases hy with rfl;rfl) (by rw[bU];(try simp only[List.length_append,List.length_singleton]);omega) (by rw[bU];unfold maxLen;(try simp only[List.length_append,List.length_singleton]);omega) (by simp;omega) ?_;intro y6 w6 hown hup hat;have hown:Own w6 w.heap.size 3 1 y6 (bZ ((o)++[x])):=(by rw[eS];exact hown);have Hown2:=Lh hown;have U6:=Lh (Below.trans ((aD wr _).mono (by omega)) (hup.toLow (B:=w.heap.size) (by simp;omega) (λk e=>(Hown.out.lt k e).1)));have z6:=hup.size;rw[cQ]at z6;clear hown hup hat
     )
   go_roundw
   case rel=>
    refine⟨k+1,d,_,by omega,by go_num,rfl,Hown2.out,Hnx.out,λj hj hjk=>?_,Hbel.out.trans U6.out⟩;by_cases e:j=k
    . subst e;rw[Hx.out];exact he
    exact Hne.out j hj (by omega)
   case measure=>simp[intOf];omega
 obtain rfl:k=l.length:=by omega
 have hv:v∉l:=λh=>by
  obtain⟨j,hj,e⟩:=List.mem_iff_getElem.1 h;exact Hne.out j hj hj e
 cases d with
 | true=>
  have hdn:=Hins.out.done hv;have Hdn:=Lh hdn;clear hdn;go_wp2_with fail;go_ret;exact⟨o,_,rfl,Hbel.out,Hdn.out,nV Hown.out (by omega)⟩
 | false=>
  have hdn:=Hins.out.put.done hv;have Hdn:=Lh hdn;clear hdn;go_wp2_with (
   skip
   at_builtin
   refine bN _ rfl (.tmp 44) (.tmp 46) _ rfl nsT (base:=w.heap.size) (v:=u5) (rows:=bZ (o)) rfl (Hown.out.alloc _) (g:=wr.heap.size) (cells:= #[.int .i64 v]) rfl (heap_alloc_new wr _) rfl (by intro y hy;simp at hy;rcases hy with rfl;rfl) (by rw[bU];(try simp only[List.length_append,List.length_singleton]);omega) (by rw[bU];unfold maxLen;(try simp only[List.length_append,List.length_singleton]);omega) (by simp;omega) ?_;intro y6 w6 hown hup hat;have hown:Own w6 w.heap.size 3 1 y6 (bZ ((o)++[v])):=by rw[eS];exact hown
   have Hown2:=Lh hown;have U6:=Lh (Below.trans ((aD wr _).mono (by omega)) (hup.toLow (B:=w.heap.size) (by simp;omega) (λk e=>(Hown.out.lt k e).1)));have z6:=hup.size;rw[cQ]at z6;clear hown hup hat
    )
  go_ret;exact⟨_,_,rfl,Hbel.out.trans U6.out,Hdn.out,nV Hown2.out (by simp;omega)⟩
theorem qI (D:Nat):∀(f:Int) (xs:List Tm) (v2 vl:Value) (l:List Int) (B:Nat) (w:World),aI xs<D->fM 48 (.mk f xs)=true->l.length+aK (.mk f xs)<=5000000->Rd w B (.sl 2 (aH xs)) v2->Rd w B (bM l) vl->B<=w.heap.size->
 Calls Try.prog 29 #[vl,.agg #[.int .i64 f,v2]] w (aG0 (qZ (.mk f xs)) (aK (.mk f xs)) l w):=by
 induction D with
 | zero=>intro f xs v2 vl l B w h;omega
 | succ D ih=>
 intro f xs v2 vl l B w hD hlow hz hr hrl hB;obtain⟨A,c2,rfl,hc,hn,hm⟩:=hr.tm_form;have H3:=Lh hr;have HL:=Lh hrl;have Hih:=Lh ih;rw[aK]at hz;clear hr hrl ih;by_cases hf:f<0
 . rw[fM,if_pos hf]at hlow;simp only[Bool.and_eq_true,decide_eq_true_eq]at hlow;obtain⟨hf48,hx0⟩:=hlow;have Hx0:=Lh hx0;clear hx0;have hoc:=λx=>aI4 (xs:=xs) hf x
   have Hoc:=Lh hoc;clear hoc;have hw64:=vR (-1-f) (by omega);have hw65:wrap64 (-1-f)= -1-f:=by unfold wrap64;omega
   go_enter Try.func29,Try.ntmps29;go_upto_region 1 with fail
   have hb1:=aD w (.cells #[.int .i64 f,.slice A xs.length c2] 51);have hx1:aL w.heap.size 51 (.int .i64 f) (.slice A xs.length c2) (w.alloc (.cells #[.int .i64 f,.slice A xs.length c2] 51)):=heap_alloc_new w _;have hz1:(w.alloc (.cells #[.int .i64 f,.slice A xs.length c2] 51)).heap.size=w.heap.size+1:=by simp
   generalize w.alloc (.cells #[.int .i64 f,.slice A xs.length c2] 51)=w1 at hx1 hb1 hz1 ⊢;have HX1:=Lh hx1;have HB1:=Lh hb1;obtain⟨x10,x11,-⟩:=hx1.cells;clear hx1 hb1;go_upto_region 3 with(
    go_at_call 40
    refine(yS l (-1-f) _ B w1 (HL.out.low HB1.out hB) (by omega) (by omega)).mono ?_;rintro e w2 ⟨l',vo,rfl,hb2,hjn,hrd2⟩;obtain⟨x10,x11,-⟩:=(HX1.out.low hb2).cells;have Hb2:=Lh hb2;have Hjn:=Lh hjn;have Hrd2:=Lh hrd2;clear hb2 hjn hrd2)
   go_wp2_with fail;go_loopw [0,5] (λu i wr=>u=vo/\i=.int .i64 0/\wr=w2) (λ_ i _=>0)
   case atStart=>exact⟨rfl,rfl,rfl⟩
   obtain⟨rfl,rfl,rfl⟩:=hrel;have hx0':¬0<xs.length:=by have:=Hx0.out;omega
   go_wp2_with fail;go_ret;refine⟨l',_,rfl,HB1.out.trans (Hb2.out.mono (by omega)),Hjn.out.congr (λx=>Hoc.out x) (by rw[aK];omega),Hrd2.out⟩
 rw[fM,if_neg hf,kP,List.all_eq_true]at hlow;have hoc:=λx=>aI3 (xs:=xs) hf x
 have Hoc:=Lh hoc;have Hlow:=Lh hlow;clear hoc hlow;go_enter Try.func29,Try.ntmps29;go_upto_region 1 with fail
 have hb1:=aD w (.cells #[.int .i64 f,.slice A xs.length c2] 51);have hx1:aL w.heap.size 51 (.int .i64 f) (.slice A xs.length c2) (w.alloc (.cells #[.int .i64 f,.slice A xs.length c2] 51)):=heap_alloc_new w _;have hz1:(w.alloc (.cells #[.int .i64 f,.slice A xs.length c2] 51)).heap.size=w.heap.size+1:=by simp
 generalize w.alloc (.cells #[.int .i64 f,.slice A xs.length c2] 51)=w1 at hx1 hb1 hz1 ⊢;have HX1:=Lh hx1;have HB1:=Lh hb1;obtain⟨x10,x11,-⟩:=hx1.cells;clear hx1 hb1;go_wp2_with fail;go_loopw [0,5] (λu i wr=>∃(k:Nat) (l':List Int),k<=xs.length/\i=.int .i64 k/\JnR (rA (xs.take k)) (aI (xs.take k)) l l'/\Rd wr wr.heap.size (bM l') u/\Below w1.heap.size w1 wr) (λ_ i _=>xs.length-(intOf i).toNat)
 case atStart=>exact⟨0,l,Nat.zero_le _,rfl,(JnR.refl l (n:=0)).congr (λx=>by rw[List.take_zero];exact aE1 x) (Nat.zero_le _),(HL.out.low HB1.out hB).more (by omega),Below.refl _ _⟩
 obtain⟨k,l',hk2,rfl,hjn,hrd,hbel⟩:=hrel;have hzr:=hbel.size;obtain⟨x10,x11,-⟩:=(HX1.out.low hbel).cells;have hbr:Below w.heap.size w wr:=HB1.out.trans (hbel.mono (by omega));have hll:=hjn.2.2;have Hjn:=Lh hjn;have Hrd:=Lh hrd;have Hbel:=Lh hbel;have Hbr:=Lh hbr;clear hjn hrd hbel hbr;by_cases hlt:k<xs.length
 . obtain⟨ab,off,f',ys,A2,c3,rfl,hxk,hab,k0,k1,hrd2⟩:=(H3.out.low Hbr.out hB).tm_at hlt;have hs1:=aZ hlt;have hs2:=iB hlt;have hs3:=fB xs (k+1);have hl1:=Hlow.out xs[k] (List.getElem_mem hlt);have hoc:=λx=>yY hlt x
   rw[hxk]at hs1 hs2 hl1 hoc;have hs4:aK (.mk f' ys)=1+aI ys:=by rw[aK];omega
   have hcl:=Hih.out f' ys (.slice A2 ys.length c3) u0 l' wr.heap.size wr (by omega) hl1 (by omega) (hrd2.more (by omega)) Hrd.out (Nat.le_refl _);have Hcl:=Lh hcl;have Hoc2:=Lh hoc;have hkk:¬((xs.length:Int)<=(k:Int)):=by omega
   clear hrd2 hxk hl1 hcl hoc;go_wp2_with (
    go_at_call 29
    refine Hcl.out.mono ?_;rintro e w6 ⟨l6,vo,rfl,hb6,hj6,hr6⟩;have Hb6:=Lh hb6;have Hj6:=Lh hj6;have Hr6:=Lh hr6;clear hb6 hj6 hr6)
   go_roundw
   case rel=>exact⟨k+1,l6,by omega,by go_num,Hjn.out.trans Hj6.out (λx=>Hoc2.out x) (by omega),Hr6.out,Hbel.out.trans (Hb6.out.mono (by omega))⟩
   case measure=>simp[intOf];omega
 have e:xs.take k=xs:=List.take_of_length_le (by omega);rw[e]at Hjn;go_wp2_with fail;go_ret;exact⟨l',_,rfl,Hbr.out,Hjn.out.congr (λx=>Hoc.out x) (by rw[aK];omega),Hrd.out⟩
theorem zD {c:Cl} {k:Nat} (hk:k<c.length):aR (c.take (k+1))=aR (c.take k)+dN c[k]:=by
 unfold aR;rw[List.take_succ_eq_append_getElem hk,List.map_append,List.sum_append];simp
theorem sI (c:Cl)(k:Nat):aR (c.take k)<=aR c:=by
 have h:aR c=aR (c.take k)+aR (c.drop k):=by
  unfold aR;rw[<-List.sum_append,<-List.map_append,List.take_append_drop]
 omega
theorem zM (c:Cl)(v:Value)(B:Nat)(w:World)(hlow:∀x∈c,fM 48 x.l=true/\fM 48 x.r=true)(hz:aR c<=5000000)(hr:Rd w B (aT c) v)(hB:B<=w.heap.size):
 Calls Try.prog 14 #[v] w (aG0 (oV c) (aR c) [] w):=by
 obtain⟨Ac,cp,rfl,hc,hn,hm⟩:=Rd.cl_form hr;have H3:=Lh hr;have Hlow:=Lh hlow;clear hr hlow;go_enter Try.func14,Try.ntmps14;go_wp2_with fail;go_loopw [3,4] (λu i wr=>∃(k:Nat) (l':List Int),k<=c.length/\i=.int .i64 k/\JnR (oV (c.take k)) (aR (c.take k)) [] l'/\Rd wr wr.heap.size (bM l') u/\Below w.heap.size w wr) (λ_ i _=>c.length-(intOf i).toNat)
 case atStart=>exact⟨0,[],Nat.zero_le _,rfl,(JnR.refl [] (n:=0)).congr (λx=>by rw[List.take_zero];exact aE0 x) (Nat.zero_le _),.none_ _,Below.refl _ _⟩
 obtain⟨k,l',hk2,rfl,hjn,hrd,hbel⟩:=hrel;have hzr:=hbel.size;have hll:=hjn.2.2;have Hjn:=Lh hjn;have Hrd:=Lh hrd;have Hbel:=Lh hbel;clear hjn hrd hbel;by_cases hlt:k<c.length
 . obtain⟨ab,off,n0,f1,ys1,A1,c1,f2,ys2,A2,c2,rfl,hxk,hab,k0,k1,k2,k3,k4,hr1,hr2⟩:=(H3.out.low Hbel.out hB).lt_at hlt;have hl:=Hlow.out c[k] (List.getElem_mem hlt);have hs2:=zD hlt;have hs3:=sI c (k+1);have hoc:=λx=>yX hlt x
   rw[hxk]at hl hs2 hoc;have hs4:dN ⟨n0,.mk f1 ys1,.mk f2 ys2⟩=aK (.mk f1 ys1)+aK (.mk f2 ys2):=rfl;have hl0:([]:List Int).length=0:=rfl;have hcl:=qI (aI ys1+1) f1 ys1 (.slice A1 ys1.length c1) u3 l' wr.heap.size wr (by omega) hl.1 (by omega) (hr1.more (by omega)) Hrd.out (Nat.le_refl _);have Hcl:=Lh hcl;have Hoc:=Lh hoc;have Hl2:=Lh hl.2;have HR2:=Lh hr2;have K3:=Lh k3;have K4:=Lh k4;have hkk:¬((c.length:Int)<=(k:Int)):=by omega
   clear hxk hr1 hr2 hcl hoc hl k0 k3 k4;go_wp2_with fail;refine Hcl.out.mono ?_;rintro e w6 ⟨l6,vo,rfl,hb6,hj6,hr6⟩;have hz6:=hb6.size;have hl6:=hj6.2.2;have k3:=(hb6.cell (p:=⟨ab,off+k*5+3,none⟩) (show ab<wr.heap.size by omega)).trans K3.out;have k4:=(hb6.cell (p:=⟨ab,off+k*5+4,none⟩) (show ab<wr.heap.size by omega)).trans K4.out;have hc2:=qI (aI ys2+1) f2 ys2 (.slice A2 ys2.length c2) vo l6 w6.heap.size w6 (by omega) Hl2.out (by omega) ((HR2.out.low hb6 (by omega)).more (by omega)) hr6 (Nat.le_refl _);have Hc2:=Lh hc2;have Hb6:=Lh hb6;have Hj6:=Lh hj6;clear hb6 hj6 hr6 hc2;go_wp2_with fail;refine Hc2.out.mono ?_;rintro e w7 ⟨l7,vo7,rfl,hb7,hj7,hr7⟩;have Hb7:=Lh hb7;have Hj7:=Lh hj7;have Hr7:=Lh hr7;clear hb7 hj7 hr7;go_wp2_with fail;go_roundw
   case rel=>
    refine⟨k+1,l7,by omega,by go_num,?_,Hr7.out,Hbel.out.trans ((Hb6.out.trans (Hb7.out.mono hz6)).mono (by omega))⟩;exact(Hjn.out.trans Hj6.out (r:=λx=>oV (c.take k) x\/qZ (.mk f1 ys1) x) (λx=>Iff.rfl) (Nat.le_refl _)).trans Hj7.out (λx=>Hoc.out x) (by omega)
   case measure=>simp[intOf];omega
 have e:c.take k=c:=List.take_of_length_le (by omega);rw[e]at Hjn;go_wp2_with fail;go_ret;exact⟨l',_,rfl,Hbel.out,Hjn.out,Hrd.out⟩
def zT (w:World)(e:Ending)(w':World):Prop:=∃i:Int,e=.returned (.int .i64 i)/\Below w.heap.size w w'
theorem oC (s:ByteArray)(w:World):Calls Try.prog 32 #[.string s] w (pL w):=by
 by_cases h1:s.size<1
 . have h1':(s.size:Int)<1:=by omega
   go_enter Try.func32,Try.ntmps32;go_wp2_with fail;go_ret;exact⟨_,rfl,Below.refl _ _⟩
 by_cases h2:40<s.size
 . have h1':¬(s.size:Int)<1:=by omega
   have h2':(40:Int)<(s.size:Int):=by omega
   go_enter Try.func32,Try.ntmps32;go_wp2_with fail;go_ret;exact⟨_,rfl,Below.refl _ _⟩
 have h1':¬(s.size:Int)<1:=by omega
 have h2':¬(40:Int)<(s.size:Int):=by omega
 go_enter Try.func32,Try.ntmps32;go_wp2_with fail;clear h1' h2';go_loopw [3] (λi wr=>∃k:Nat,k<=s.size/\i=.int .i64 k/\Below w.heap.size w wr) (λi _=>s.size-(intOf i).toNat)
 case atStart=>exact⟨0,Nat.zero_le _,rfl,Below.refl _ _⟩
 obtain⟨k,hk,rfl,hbel⟩:=hrel;have Hbel:=Lh hbel;clear hbel;by_cases hlt:k<s.size
 . obtain⟨c,hcc⟩:∃c,s[k].toNat=c:=⟨_,rfl⟩;by_cases a1:97<=c
   . have a1':(97:Int)<=(c:Int):=(by omega);by_cases a2:c<=122
     . have a2':(c:Int)<=122:=(by omega);go_wp2_with fail;all_goals
        go_roundw
        case rel=>exact⟨k+1,by omega,by go_num,Hbel.out⟩
        case measure=>simp[intOf];omega
     have a2':¬(c:Int)<=122:=(by omega);have a3':(65:Int)<=(c:Int):=(by omega);have a4':¬(c:Int)<=90:=(by omega);have a5':(48:Int)<=(c:Int):=(by omega);have a6':¬(c:Int)<=57:=(by omega);have a7':((c:Int)==95)=false:=(by rw[beq_eq_false_iff_ne];omega);go_wp2_with fail;all_goals
      go_ret;exact⟨_,rfl,Hbel.out⟩
   have a1':¬(97:Int)<=(c:Int):=by omega
   by_cases a3:65<=c
   . have a3':(65:Int)<=(c:Int):=(by omega);by_cases a4:c<=90
     . have a4':(c:Int)<=90:=(by omega);go_wp2_with fail;all_goals
        go_roundw
        case rel=>exact⟨k+1,by omega,by go_num,Hbel.out⟩
        case measure=>simp[intOf];omega
     have a4':¬(c:Int)<=90:=(by omega);have a5':(48:Int)<=(c:Int):=(by omega);have a6':¬(c:Int)<=57:=(by omega);by_cases a7:c=95
     . have a7':((c:Int)==95)=true:=(by rw[beq_iff_eq];omega);clear a7;go_wp2_with fail;all_goals
        go_roundw
        case rel=>exact⟨k+1,by omega,by go_num,Hbel.out⟩
        case measure=>simp[intOf];omega
     have a7':((c:Int)==95)=false:=(by rw[beq_eq_false_iff_ne];omega);go_wp2_with fail;all_goals
      go_ret;exact⟨_,rfl,Hbel.out⟩
   have a3':¬(65:Int)<=(c:Int):=by omega
   have a7':((c:Int)==95)=false:=by rw[beq_eq_false_iff_ne];omega
   by_cases a5:48<=c
   . have a5':(48:Int)<=(c:Int):=(by omega);by_cases a6:c<=57
     . have a6':(c:Int)<=57:=(by omega);go_wp2_with fail;all_goals
        go_roundw
        case rel=>exact⟨k+1,by omega,by go_num,Hbel.out⟩
        case measure=>simp[intOf];omega
     have a6':¬(c:Int)<=57:=(by omega);go_wp2_with fail;all_goals
      go_ret;exact⟨_,rfl,Hbel.out⟩
   have a5':¬(48:Int)<=(c:Int):=by omega
   go_wp2_with fail;all_goals
    go_ret;exact⟨_,rfl,Hbel.out⟩
 go_wp2_with fail;go_ret;exact⟨_,rfl,Hbel.out⟩
theorem aL3 (s:Sy)(w:World):Calls Try.prog 20 #[.agg #[.string s.name,.int .i64 s.ar,.bool s.pr]] w (zT w):=by
 go_enter Try.func20,Try.ntmps20;go_upto_region 1 with fail
 have hb1:=aD w (.cells #[.string s.name,.int .i64 s.ar,.bool s.pr] 60);have hx1:=heap_alloc_new w (.cells #[.string s.name,.int .i64 s.ar,.bool s.pr] 60);generalize w.alloc (.cells #[.string s.name,.int .i64 s.ar,.bool s.pr] 60)=w1 at hx1 hb1 ⊢;have k1:=λo=>cell_of_row w1 w.heap.size o _ _ _ hx1
 have hl1:=eA hx1;have HB1:=Lh hb1;have HX1:=Lh hx1;clear hx1 hb1;obtain⟨ar,har⟩:∃a,s.ar=a:=⟨_,rfl⟩;rw[har]at k1 HX1;by_cases h1:ar<0
 . go_wp2_with (
  go_at_call 32
  refine(oC s.name _).mono ?_;rintro e w2 ⟨b,rfl,hb2⟩;have k1:=λo=>cell_of_row w2 w.heap.size o _ _ _ ((hb2.block _ hl1).trans HX1.out)
  have Hb2:=Lh hb2;clear hb2;cases b)
   all_goals
    go_ret;exact⟨_,rfl,HB1.out.trans (Hb2.out.mono (by omega))⟩
 by_cases h2:6<ar
 . go_wp2_with (
  go_at_call 32
  refine(oC s.name _).mono ?_;rintro e w2 ⟨b,rfl,hb2⟩;have k1:=λo=>cell_of_row w2 w.heap.size o _ _ _ ((hb2.block _ hl1).trans HX1.out)
  have Hb2:=Lh hb2;clear hb2;cases b)
   all_goals
    go_ret;exact⟨_,rfl,HB1.out.trans (Hb2.out.mono (by omega))⟩
 go_wp2_with (
  go_at_call 32
  refine(oC s.name _).mono ?_;rintro e w2 ⟨b,rfl,hb2⟩;have k1:=λo=>cell_of_row w2 w.heap.size o _ _ _ ((hb2.block _ hl1).trans HX1.out)
  have Hb2:=Lh hb2;clear hb2;cases b)
 all_goals
  go_ret;exact⟨_,rfl,HB1.out.trans (Hb2.out.mono (by omega))⟩
def rF (a b:ByteArray)(m n:Int)(p q:Bool):Bool:=decide (a=b/\m=n/\p=q)
theorem rM (a b:ByteArray):(a.toList=b.toList)=(a=b):=by
 rw[ByteArray.toList_eq,ByteArray.toList_eq];obtain⟨⟨x⟩⟩:=a;obtain⟨⟨y⟩⟩:=b;simp
theorem aE8 (a b:ByteArray)(m n:Int)(p q:Bool)(w:World):
 (binOp .eql 60 (.agg #[.string a,.int .i64 m,.bool p]) (.agg #[.string b,.int .i64 n,.bool q])).run Try.prog w=.ok (.bool (rF a b m n p q)) w:=by
 simp only[go_sem];simp[go_sem,rM]
 unfold rF;by_cases h1:a=b <;> by_cases h2:m=n <;> by_cases h3:p=q <;> simp[h1,h2,h3]
theorem aE9 (a b:ByteArray)(m n:Int)(p q:Bool)(w:World):
 (binOp .neq 60 (.agg #[.string a,.int .i64 m,.bool p]) (.agg #[.string b,.int .i64 n,.bool q])).run Try.prog w=.ok (.bool (!rF a b m n p q)) w:=by
 simp only[go_sem];simp[go_sem,rM]
 unfold rF;by_cases h1:a=b <;> by_cases h2:m=n <;> by_cases h3:p=q <;> simp[h1,h2,h3]
theorem aG4 (l:List Sy)(s:Sy)(v:Value)(B:Nat)(w:World)(hr:Rd w B (fX l) v)(hB:B<=w.heap.size):
 Calls Try.prog 21 #[v,.agg #[.string s.name,.int .i64 s.ar,.bool s.pr]] w (zT w):=by
 obtain⟨A,c,rfl,hc,hn,hm⟩:=Rd.row_form (show Rd w B (.sl 3 (l.map fZ)) v from hr);have Hr:=Lh hr;clear hr;go_enter Try.func21,Try.ntmps21;go_wp2_with fail;go_loopw [5] (λi wr=>∃k:Nat,k<=l.length/\i=.int .i64 k/\Below w.heap.size w wr/\wr.heap[w.heap.size]? =some (Obj.cells #[.string s.name,.int .i64 s.ar,.bool s.pr] 60)) (λi _=>l.length-(intOf i).toNat)
 case atStart=>exact⟨0,Nat.zero_le _,rfl,aD w _,heap_alloc_new w _⟩
 obtain⟨k,hk,rfl,hbel,hown⟩:=hrel;have hsz:w.heap.size<wr.heap.size:=(Array.getElem?_eq_some_iff.1 hown).1;have hown2:=λo=>cell_of_row wr w.heap.size o _ _ _ hown
 have Hown:=Lh hown;clear hown;by_cases hlt:k<l.length
 . obtain⟨ab,off,rfl,hb,c0,c1,c2⟩:=(Hr.out.low hbel hB).sy_at hlt;have hq:=aE8 l[k].name s.name l[k].ar s.ar l[k].pr s.pr;cases hs:rF l[k].name s.name l[k].ar s.ar l[k].pr s.pr with
   | true=>
    go_wp2_with fail;go_quiet (fail)
    go_wp2_with fail;go_ret;exact⟨_,rfl,sV hbel _⟩
   | false=>
    go_wp2_with fail;go_quiet (fail)
    go_wp2_with fail;go_roundw
    case rel=>exact⟨k+1,by omega,by go_num,sV hbel _,Hown.out⟩
    case measure=>simp[intOf];omega
 go_wp2_with fail;go_ret;exact⟨_,rfl,hbel⟩
def rO:Value:=.agg #[.string ⟨#[36,116,114,117,101]⟩,.int .i64 0,.bool true]
theorem oY (w:World):Calls Try.prog 19 #[] w (λe w'=>e=.returned rO/\Below w.heap.size w w'):=by
 go_enter Try.func19,Try.ntmps19;go_wp2_with fail;have hx:=heap_alloc_new w (.cells #[.string ⟨#[36,116,114,117,101]⟩,.int .i64 0,.bool true] 60);have k0:=cell_of_row _ w.heap.size 0 _ _ _ hx;have k1:=cell_of_row _ w.heap.size 1 _ _ _ hx;have k2:=cell_of_row _ w.heap.size 2 _ _ _ hx;refine bodyPost_ret (v:=rO) (by simp[results,Try.results19,go_sem,rO,k0,k1,k2]) rfl ⟨rfl,aD w _⟩
def aF8 (sig:List Sy)(w:World)(e:Ending)(w':World):Prop:=
 ∃n:Int,e=.returned (.int .i64 n)/\Below w.heap.size w w'/\(n=0->∃h:0<sig.length,sig[0].ar=0/\sig[0].pr=true)
theorem wF (sig:List Sy)(vs:Value)(B:Nat)(w:World)(hr:Rd w B (fX sig) vs)(hB:B<=w.heap.size):
 Calls Try.prog 8 #[.agg #[vs]] w (aF8 sig w):=by
 obtain⟨As,cs,rfl,hsc,hsn,hsm⟩:=Rd.row_form (show Rd w B (.sl 3 (sig.map fZ)) vs from hr);have HT:=Lh hr;clear hr;by_cases h1:96<sig.length
 . have h1':(96:Int)<(sig.length:Int):=by omega
   go_enter Try.func8,Try.ntmps8;go_upto_region 1 with fail
   have hb1:=aD w (.cells #[.slice As sig.length cs] 24);have hx1:aU w.heap.size 24 (.slice As sig.length cs) (w.alloc (.cells #[.slice As sig.length cs] 24)):=heap_alloc_new w _;have hz1:(w.alloc (.cells #[.slice As sig.length cs] 24)).heap.size=w.heap.size+1:=by simp
   generalize w.alloc (.cells #[.slice As sig.length cs] 24)=w1 at hx1 hb1 hz1 ⊢;have HX1:=Lh hx1;have HB1:=Lh hb1;have x10:=hx1.cell;clear hx1 hb1;go_wp2_with fail;go_ret;exact⟨_,rfl,HB1.out,λe=>by cases e⟩
 have h1':¬(96:Int)<(sig.length:Int):=by omega
 by_cases h0:sig.length=0
 . have A3:=Lh (show sig=[]from List.length_eq_zero_iff.1 h0);have zb:=0;have zo:=0;have nm:=ByteArray.empty;have ar:=(0:Int);have pr:=true;have hq:=trivial;have g0:=trivial;have g1:=trivial;have q0:=trivial;have q1:=trivial;have q2:=trivial;clear h0;go_enter Try.func8,Try.ntmps8;go_upto_region 1 with fail
   have hb1:=aD w (.cells #[.slice As sig.length cs] 24);have hx1:aU w.heap.size 24 (.slice As sig.length cs) (w.alloc (.cells #[.slice As sig.length cs] 24)):=heap_alloc_new w _;have hz1:(w.alloc (.cells #[.slice As sig.length cs] 24)).heap.size=w.heap.size+1:=by simp
   generalize w.alloc (.cells #[.slice As sig.length cs] 24)=w1 at hx1 hb1 hz1 ⊢;have HX1:=Lh hx1;have HB1:=Lh hb1;have x10:=hx1.cell;clear hx1 hb1;go_upto_region 3 with fail
   clear x10;refine rg 12 (λ_ w'=>Below w1.heap.size w1 w') ?_;intro wd hwd hbd;refine⟨?_,λhS=>?_⟩
   . exact hwd ▸ hbd
   refine ta 0 (.pointer (some ⟨w.heap.size,0,none⟩)) hS λhS=>?_
   refine tk 1 (.slice As sig.length cs) hS ?_ λhS=>?_
   . intro w' L hn hw;have o1:=(HX1.out.low hw).cell;simp[execOp,go_sem,o1]
   refine ta 2 (.int .i64 (sig.length:Nat)) hS λhS=>?_
   refine tk 3 (.bool true) hS ?_ λhS=>?_
   . intros;simp[execOp,go_sem,A3.out]
   refine ta 4 (.bool true) hS λhS=>?_
   refine sk 5 hS λhS=>?_
   refine sk 6 hS λhS=>?_
   refine sk 7 hS λhS=>?_
   refine sk 8 hS λhS=>?_
   refine sk 9 hS λhS=>?_
   refine sk 10 hS λhS=>?_
   refine ta 11 (.bool true) hS λhS=>?_
   refine dn ?_;have HS:=Lh hS;have hbz:=hS.size;have x10:=(HX1.out.low hS).cell;clear hS hwd hbd;go_wp2_with fail;go_ret;exact⟨_,rfl,HB1.out.trans (HS.out.mono (by omega)),λe=>by cases e⟩
 have a3:¬sig=[]:=λe=>h0 (by rw[e];rfl)
 have g0:0<sig.length:=by omega
 have g1:¬((sig.length:Int)<=0):=by omega
 obtain⟨zb,zo,rfl,hzb,s0,s1,s2⟩:=HT.out.sy_at g0;obtain⟨nm,hnm⟩:∃x,sig[0].name=x:=⟨_,rfl⟩;obtain⟨ar,har⟩:∃x,sig[0].ar=x:=⟨_,rfl⟩;obtain⟨pr,hpr⟩:∃x,sig[0].pr=x:=⟨_,rfl⟩;rw[hnm]at s0;rw[har]at s1;rw[hpr]at s2;simp only[Nat.zero_mul,Nat.add_zero]at s0 s1 s2;have S0:=Lh s0;have S1:=Lh s1;have S2:=Lh s2;clear s0 s1 s2;have hq0:=aE9 nm ⟨#[36,116,114,117,101]⟩ ar 0 pr true;cases hsb:rF nm ⟨#[36,116,114,117,101]⟩ ar 0 pr true with
 | true=>
  have hfst:∃h:0<sig.length,sig[0].ar=0/\sig[0].pr=true:=by
   unfold rF at hsb;rw[decide_eq_true_eq]at hsb;exact⟨g0,by rw[har];exact hsb.2.1,by rw[hpr];exact hsb.2.2⟩
  have Hfst:=Lh hfst;rw[hsb]at hq0;have hq:=hq0;clear hfst hsb hnm har hpr hq0;go_enter Try.func8,Try.ntmps8;go_upto_region 1 with fail
  have hb1:=aD w (.cells #[.slice (some ⟨zb,zo,none⟩) sig.length cs] 24);have hx1:aU w.heap.size 24 (.slice (some ⟨zb,zo,none⟩) sig.length cs) (w.alloc (.cells #[.slice (some ⟨zb,zo,none⟩) sig.length cs] 24)):=heap_alloc_new w _;have hz1:(w.alloc (.cells #[.slice (some ⟨zb,zo,none⟩) sig.length cs] 24)).heap.size=w.heap.size+1:=by simp
  generalize w.alloc (.cells #[.slice (some ⟨zb,zo,none⟩) sig.length cs] 24)=w1 at hx1 hb1 hz1 ⊢;have HX1:=Lh hx1;have HB1:=Lh hb1;have x10:=hx1.cell;clear hx1 hb1;go_upto_region 3 with fail
  clear x10;refine rg 12 (λ_ w'=>Below w1.heap.size w1 w') ?_;intro wd hwd hbd;refine⟨?_,λhS=>?_⟩
  . exact hwd ▸ hbd
  refine ta 0 (.pointer (some ⟨w.heap.size,0,none⟩)) hS λhS=>?_
  refine tk 1 (.slice (some ⟨zb,zo,none⟩) sig.length cs) hS ?_ λhS=>?_
  . intro w' L hn hw;have o1:=(HX1.out.low hw).cell;simp[execOp,go_sem,o1]
  refine ta 2 (.int .i64 (sig.length:Nat)) hS λhS=>?_
  refine tk 3 (.bool false) hS ?_ λhS=>?_
  . intros;simp[execOp,go_sem,a3]
  refine ta 4 (.bool false) hS λhS=>?_
  refine ta 5 (.pointer (some ⟨w.heap.size,0,none⟩)) hS λhS=>?_
  refine tk 6 (.slice (some ⟨zb,zo,none⟩) sig.length cs) hS ?_ λhS=>?_
  . intro w' L hn hw;have o1:=(HX1.out.low hw).cell;simp[execOp,go_sem,o1]
  refine tk 7 (.pointer (some ⟨zb,zo,none⟩)) hS ?_ λhS=>?_
  . intros;simp[execOp,go_sem,g0,g1]
  refine tk 8 (.agg #[.string nm,.int .i64 ar,.bool pr]) hS ?_ λhS=>?_
  . intro w' L hn hw;(have q0:=(HB1.out.trans (hw.mono (by omega))).cell (p:=⟨zb,zo,none⟩) (show zb<w.heap.size by omega) |>.trans S0.out;have q1:=(HB1.out.trans (hw.mono (by omega))).cell (p:=⟨zb,zo+1,none⟩) (show zb<w.heap.size by omega) |>.trans S1.out;have q2:=(HB1.out.trans (hw.mono (by omega))).cell (p:=⟨zb,zo+2,none⟩) (show zb<w.heap.size by omega) |>.trans S2.out)
    simp[execOp,go_sem,q0,q1,q2]
  refine so 9 ?_;have hbd4:Below w1.heap.size w1 wd:=hwd ▸ hbd;refine aG ?_ (oY wd) ?_
  . simp[execOp,resolve,invoke,go_sem]
  rintro e w6 ⟨rfl,hb6⟩;refine⟨_,rfl,?_⟩;refine gS ?_ λhS=>?_
  . exact hS.trans (hb6.mono hS.size)
  refine tk 10 (.bool false) hS ?_ λhS=>?_
  . intros;simp[execOp,go_sem,rO,hq]
  refine ta 11 (.bool false) hS λhS=>?_
  refine dn ?_;have HS:=Lh hS;have hbz:=hS.size;have x10:=(HX1.out.low hS).cell;clear hS hwd hbd;go_wp2_with fail;go_loopw [3] (λi wr=>∃k:Nat,1<=k/\k<=sig.length/\i=.int .i64 k/\Below w1.heap.size w1 wr) (λi _=>sig.length-(intOf i).toNat)
  case atStart=>exact⟨1,Nat.le_refl _,by omega,rfl,HS.out⟩
  clear HS x10;obtain⟨k,hk1,hk,rfl,hbel⟩:=hrel;have hzr:=hbel.size;have x10:=(HX1.out.low hbel).cell;have hbr:Below w.heap.size w wr:=HB1.out.trans (hbel.mono (by omega));have Hbr:=Lh hbr;have Hbel:=Lh hbel;clear hbel hbr;by_cases hlt:k<sig.length
  . obtain⟨zb',zo',hss,hzb',k0,k1,k2⟩:=(HT.out.low Hbr.out hB).sy_at hlt;obtain⟨rfl,rfl⟩:zb=zb'/\zo=zo':=by cases hss;exact⟨rfl,rfl⟩
    clear hss;have hone:=aL3 sig[k] wr;have hcl:=fun(w':World) (hb:Below wr.heap.size wr w')=>aG4 sig sig[k] (.slice (some ⟨zb,zo,none⟩) sig.length cs) B w' (HT.out.low (Hbr.out.trans (hb.mono Hbr.out.size)) hB) (by have:=hb.size;omega)
    obtain⟨nm2,hnm⟩:∃x,sig[k].name=x:=⟨_,rfl⟩;obtain⟨ar2,har⟩:∃x,sig[k].ar=x:=⟨_,rfl⟩;obtain⟨pr2,hpr⟩:∃x,sig[k].pr=x:=⟨_,rfl⟩;rw[hnm,har,hpr]at hone;simp only[hnm,har,hpr]at hcl k0 k1 k2;have Hone:=Lh hone;have K0:=Lh k0;have K1:=Lh k1;have K2:=Lh k2;have hkk:¬((sig.length:Int)<=(k:Int)):=(by omega);have hklt:(k:Int)<(sig.length:Int):=(by omega);clear hone hnm har hpr;have Hcl0:=Lh hcl;clear hcl;go_upto_region 9 with(
     go_at_call 20
     refine Hone.out.mono ?_;rintro e w2 ⟨nn,rfl,hb2⟩;have Hb2:=Lh hb2;clear hb2)
    clear k0 k1 k2 x10;have hz2:=Hb2.out.size;have hx2:=(HX1.out.low Hbel.out).low Hb2.out;have x10:=hx2.cell;have HX2:=Lh hx2;have Hcl:=Lh (fun(w':World) (hb:Below w2.heap.size w2 w')=>Hcl0.out w' (Hb2.out.trans (hb.mono hz2)));clear hx2 Hcl0;by_cases hn0:nn=0
    . go_upto_region 11 with fail
      refine rg 10 (λ_ w'=>Below w2.heap.size w2 w') ?_;intro wd hwd hbd;refine⟨?_,λhS=>?_⟩
      . exact hwd ▸ hbd
      refine ta 0 (.pointer (some ⟨w.heap.size,0,none⟩)) hS λhS=>?_
      refine tk 1 (.slice (some ⟨zb,zo,none⟩) sig.length cs) hS ?_ λhS=>?_
      . intro w' L hn hw;have o1:=(HX2.out.low hw).cell;simp[execOp,go_sem,o1]
      refine ta 2 (.pointer (some ⟨w.heap.size,0,none⟩)) hS λhS=>?_
      refine tk 3 (.slice (some ⟨zb,zo,none⟩) sig.length cs) hS ?_ λhS=>?_
      . intro w' L hn hw;have o1:=(HX2.out.low hw).cell;simp[execOp,go_sem,o1]
      refine ta 4 (.int .i64 (k:Nat)) hS λhS=>?_
      refine tk 5 (.pointer (some ⟨zb,zo+k*3,none⟩)) hS ?_ λhS=>?_
      . intros;simp[execOp,go_sem,hlt,hkk]
      refine tk 6 (.agg #[.string nm2,.int .i64 ar2,.bool pr2]) hS ?_ λhS=>?_
      . intro w' L hn hw;have q0:=(hw.cell (p:=⟨zb,zo+k*3,none⟩) (show zb<w2.heap.size by omega)).trans ((Hb2.out.cell (p:=⟨zb,zo+k*3,none⟩) (show zb<wr.heap.size by omega)).trans K0.out);have q1:=(hw.cell (p:=⟨zb,zo+k*3+1,none⟩) (show zb<w2.heap.size by omega)).trans ((Hb2.out.cell (p:=⟨zb,zo+k*3+1,none⟩) (show zb<wr.heap.size by omega)).trans K1.out);have q2:=(hw.cell (p:=⟨zb,zo+k*3+2,none⟩) (show zb<w2.heap.size by omega)).trans ((Hb2.out.cell (p:=⟨zb,zo+k*3+2,none⟩) (show zb<wr.heap.size by omega)).trans K2.out);simp[execOp,go_sem,q0,q1,q2]
      refine ta 8 (.int .i64 (k:Nat)) hS λhS=>?_
      refine so 7 ?_;have hbd4:Below w2.heap.size w2 wd:=hwd ▸ hbd;refine aG ?_ (Hcl.out wd hbd4) ?_
      . simp[execOp,resolve,invoke,go_sem]
      rintro e w6 ⟨q,rfl,hb6⟩;refine⟨_,rfl,?_⟩;refine gS ?_ λhS=>?_
      . exact hS.trans (hb6.mono hS.size)
      refine ta 9 (.bool (decide (q<(k:Nat)))) hS λhS=>?_
      refine dn ?_;have HS:=Lh hS;have hbz:=hS.size;clear hS hwd hbd hbd4 hb6;by_cases hq2:q<(k:Int)
      . go_wp2_with fail;go_ret;exact⟨_,rfl,Hbr.out.trans ((Hb2.out.trans (HS.out.mono hz2)).mono (by omega)),λe=>by cases e⟩
      go_wp2_with fail;go_roundw
      case rel=>exact⟨k+1,by omega,by omega,by go_num,Hbel.out.trans ((Hb2.out.trans (HS.out.mono hz2)).mono (by omega))⟩
      case measure=>simp[intOf];omega
    go_wp2_with fail;go_ret;exact⟨_,rfl,Hbr.out.trans (Hb2.out.mono (by omega)),λe=>absurd e hn0⟩
  go_wp2_with fail;go_ret;exact⟨_,rfl,Hbr.out,λ_=>Hfst.out⟩
 | false=>
  rw[hsb]at hq0;have hq:=hq0;clear hsb hnm har hpr hq0;go_enter Try.func8,Try.ntmps8;go_upto_region 1 with fail
  have hb1:=aD w (.cells #[.slice (some ⟨zb,zo,none⟩) sig.length cs] 24);have hx1:aU w.heap.size 24 (.slice (some ⟨zb,zo,none⟩) sig.length cs) (w.alloc (.cells #[.slice (some ⟨zb,zo,none⟩) sig.length cs] 24)):=heap_alloc_new w _;have hz1:(w.alloc (.cells #[.slice (some ⟨zb,zo,none⟩) sig.length cs] 24)).heap.size=w.heap.size+1:=by simp
  generalize w.alloc (.cells #[.slice (some ⟨zb,zo,none⟩) sig.length cs] 24)=w1 at hx1 hb1 hz1 ⊢;have HX1:=Lh hx1;have HB1:=Lh hb1;have x10:=hx1.cell;clear hx1 hb1;go_upto_region 3 with fail
  clear x10;refine rg 12 (λ_ w'=>Below w1.heap.size w1 w') ?_;intro wd hwd hbd;refine⟨?_,λhS=>?_⟩
  . exact hwd ▸ hbd
  refine ta 0 (.pointer (some ⟨w.heap.size,0,none⟩)) hS λhS=>?_
  refine tk 1 (.slice (some ⟨zb,zo,none⟩) sig.length cs) hS ?_ λhS=>?_
  . intro w' L hn hw;have o1:=(HX1.out.low hw).cell;simp[execOp,go_sem,o1]
  refine ta 2 (.int .i64 (sig.length:Nat)) hS λhS=>?_
  refine tk 3 (.bool false) hS ?_ λhS=>?_
  . intros;simp[execOp,go_sem,a3]
  refine ta 4 (.bool false) hS λhS=>?_
  refine ta 5 (.pointer (some ⟨w.heap.size,0,none⟩)) hS λhS=>?_
  refine tk 6 (.slice (some ⟨zb,zo,none⟩) sig.length cs) hS ?_ λhS=>?_
  . intro w' L hn hw;have o1:=(HX1.out.low hw).cell;simp[execOp,go_sem,o1]
  refine tk 7 (.pointer (some ⟨zb,zo,none⟩)) hS ?_ λhS=>?_
  . intros;simp[execOp,go_sem,g0,g1]
  refine tk 8 (.agg #[.string nm,.int .i64 ar,.bool pr]) hS ?_ λhS=>?_
  . intro w' L hn hw;(have q0:=(HB1.out.trans (hw.mono (by omega))).cell (p:=⟨zb,zo,none⟩) (show zb<w.heap.size by omega) |>.trans S0.out;have q1:=(HB1.out.trans (hw.mono (by omega))).cell (p:=⟨zb,zo+1,none⟩) (show zb<w.heap.size by omega) |>.trans S1.out;have q2:=(HB1.out.trans (hw.mono (by omega))).cell (p:=⟨zb,zo+2,none⟩) (show zb<w.heap.size by omega) |>.trans S2.out)
    simp[execOp,go_sem,q0,q1,q2]
  refine so 9 ?_;have hbd4:Below w1.heap.size w1 wd:=hwd ▸ hbd;refine aG ?_ (oY wd) ?_
  . simp[execOp,resolve,invoke,go_sem]
  rintro e w6 ⟨rfl,hb6⟩;refine⟨_,rfl,?_⟩;refine gS ?_ λhS=>?_
  . exact hS.trans (hb6.mono hS.size)
  refine tk 10 (.bool true) hS ?_ λhS=>?_
  . intros;simp[execOp,go_sem,rO,hq]
  refine ta 11 (.bool true) hS λhS=>?_
  refine dn ?_;have HS:=Lh hS;have hbz:=hS.size;have x10:=(HX1.out.low hS).cell;clear hS hwd hbd;go_wp2_with fail;go_ret;exact⟨_,rfl,HB1.out.trans (HS.out.mono (by omega)),λe=>by cases e⟩
end Go.Proofs.Ytiaoabfndnidiaa