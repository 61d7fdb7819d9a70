/-
 Part 9 of the proof over the checker:walks and plain laws.
-/
import Derived.Test.YtiaoabfndnidiaaMH
set_option maxRecDepth 100000
set_option maxHeartbeats 8000000
set_option linter.unusedSimpArgs false
set_option linter.unusedVariables false
namespace Go.Proofs.Ytiaoabfndnidiaa
open Go.RowKit
theorem kR {w:World} {B:Nat} {x:Lt} {v:Value} (h:LtV w B x v)(r:Bool):
 ∃fa xa Aa ca ft xt At ct,aV x r=.mk fa xa/\aV x (!r)=.mk ft xt/\Rd w B (.sl 2 (aH xa)) (.slice Aa xa.length ca)/\Rd w B (.sl 2 (aH xt)) (.slice At xt.length ct)/\
  ∀w1,Calls Try.prog 70 #[v,.bool r] w1 (λe w'=>e=.returned (.tuple #[.agg #[.int .i64 fa,.slice Aa xa.length ca],.agg #[.int .i64 ft,.slice At xt.length ct]])/\Below w1.heap.size w1 w'):=by
 obtain⟨A1,c1,A2,c2,rfl,h1,h2⟩:=h;rcases x with⟨n,⟨f,xs⟩,⟨g,ys⟩⟩
 simp only[Tm.fn,Tm.args]at*;cases r with
 | false=>exact⟨f,xs,A1,c1,g,ys,A2,c2,rfl,rfl,h1,h2,λw1=>(nB n false f g _ _ A1 A2 c1 c2 w1).mono λe w' hh=>hh⟩
 | true=>exact⟨g,ys,A2,c2,f,xs,A1,c1,rfl,rfl,h2,h1,λw1=>(nB n true f g _ _ A1 A2 c1 c2 w1).mono λe w' hh=>hh⟩
theorem xN (s:Sp)(c:Cl)(v1 v2 v3 v4 v5 vc:Value)(B:Nat)(w:World)(hru:s.rule=3)(hs:RdS w B s v1 v2 v3 v4 v5)(hc:Rd w B (aT c) vc)(hB:B<=w.heap.size)(hcn:c.length<=1000)(hsz:∀x∈c,aK x.l<=300/\aK x.r<=300)(hzc:aR c<=1000000):
 Calls Try.prog 49 #[.agg #[.int .i64 s.rule,v1,v2,v3,v4,v5],vc] w (oN (bA s c) w):=by
 have hq6:(s.rule==6)=false:=by rw[hru];rfl
 have hq7:(s.rule==7)=false:=by rw[hru];rfl
 have hq2:(s.rule==2)=false:=by rw[hru];rfl
 have hsm:bA s c=if cL s c=false then none else lO s c:=by
  unfold bA;rw[if_neg (by rw[hru];decide:¬s.rule=6),if_neg (by rw[hru];decide:¬s.rule=7),if_neg (by rw[hru];decide:¬s.rule=2)]
 have Hsm:=Lh hsm;clear hsm;obtain⟨Ac,cc,rfl,-,-,-⟩:=Rd.cl_form hc;have HStp:=Lh hs;have Hc:=Lh hc;have hq3:(s.rule==3)=true:=by rw[hru];rfl
 have hok:cL s c=(aY s 1 2 2 false&& !dB s c):=by unfold cL;rw[hru];rfl
 obtain⟨bn,hbn⟩:∃b,aY s 1 2 2 false=b:=⟨_,rfl⟩;obtain⟨bb,hbb⟩:∃b,dB s c=b:=⟨_,rfl⟩;rw[hbn,hbb]at hok;have hnone:(bn&& !bb)=false->bA s c=none:=λh=>by unfold bA;rw[if_pos (hok.trans h)]
 have Hbn:=Lh hbn;have Hbb:=Lh hbb;have Hok:=Lh hok;have Hrul:=Lh hru;have Hnone:=Lh hnone;obtain⟨-,-,A2,c2,-,-,-,-,-,-,-,rfl,-⟩:=hs.forms;have hlb:∀(w':World) (b:Nat),Below w.heap.size w w'->aU b 38 (.slice Ac c.length cc) w'->Calls Try.prog 34 #[.slice A2 s.lits.length c2,.func (.func 63) #[] #[.pointer (some ⟨b,0,none⟩)]] w' (aP bb w'):=by
  intro w' b hb hbx;rw[<-hbb];refine gZ _ (dE s c.length) s.lits _ B w' (hs.lits.low hb hB) (by have:=hb.size;omega) λk hk w1 ev hb1 hv=>?_
  rw[show ev=.int .i64 s.lits[k]from hv];have:=iA s.lits[k] b Ac c.length cc w1 ((hb1.cell (p:=⟨b,0,none⟩) hbx.lt).trans hbx.cell);unfold dE;rw[List.getElem?_eq_getElem hk];exact this
 have Hlb:=Lh hlb;clear hs hc hok hbn hbb hnone hlb hru;cases bn with
 | false=>
  have Hno:=Lh (Hnone.out rfl);go_enter Try.func49,Try.ntmps49;go_upto_region 1 with fail
  obtain⟨hx1,hx2,hB2,hz2⟩:=aO w (.cells #[.int .i64 s.rule,v1,(.slice A2 s.lits.length c2),v3,v4,v5] 45) (.cells #[.slice Ac c.length cc] 38);have hx1:dH w.heap.size 45 (.int .i64 s.rule) v1 ((.slice A2 s.lits.length c2)) v3 v4 v5 _:=hx1;have hx2:aU (w.heap.size+1) 38 (.slice Ac c.length cc) _:=hx2;generalize (w.alloc (.cells #[.int .i64 s.rule,v1,(.slice A2 s.lits.length c2),v3,v4,v5] 45)).alloc (.cells #[.slice Ac c.length cc] 38)=w2 at hx1 hx2 hB2 hz2 ⊢;obtain⟨y0,y1,y2,y3,y4,y5⟩:=hx1.cells;have x0:=hx2.cell;have HX1:=Lh hx1;have HX2:=Lh hx2;have HB2:=Lh hB2;have hnm:=aN s 1 2 2 false v1 _ v3 v4 v5 B w2 (HStp.out.low hB2 hB);have Hnm:=Lh hnm;clear hx1 hx2 hB2 hnm;go_wp2_with (
   go_at_call 46
   refine Hnm.out.mono ?_;rintro e w3 ⟨rfl,hb3⟩;rw[Hbn.out])
  refine bodyPost_ret (v:=.tuple #[.slice none 0 0,.bool false]) (by simp[results,Try.results49,go_sem]) rfl ?_;rw[Hno.out];refine⟨?_,_,rfl,λc h=>by cases h⟩;exact HB2.out.trans (hb3.mono (by omega))
 | true=>
  cases bb with
  | true=>
   have Hno:=Lh (Hnone.out rfl);go_enter Try.func49,Try.ntmps49;go_upto_region 1 with fail
   obtain⟨hx1,hx2,hB2,hz2⟩:=aO w (.cells #[.int .i64 s.rule,v1,(.slice A2 s.lits.length c2),v3,v4,v5] 45) (.cells #[.slice Ac c.length cc] 38);have hx1:dH w.heap.size 45 (.int .i64 s.rule) v1 ((.slice A2 s.lits.length c2)) v3 v4 v5 _:=hx1;have hx2:aU (w.heap.size+1) 38 (.slice Ac c.length cc) _:=hx2;generalize (w.alloc (.cells #[.int .i64 s.rule,v1,(.slice A2 s.lits.length c2),v3,v4,v5] 45)).alloc (.cells #[.slice Ac c.length cc] 38)=w2 at hx1 hx2 hB2 hz2 ⊢;obtain⟨y0,y1,y2,y3,y4,y5⟩:=hx1.cells;have x0:=hx2.cell;have HX1:=Lh hx1;have HX2:=Lh hx2;have HB2:=Lh hB2;have hnm:=aN s 1 2 2 false v1 _ v3 v4 v5 B w2 (HStp.out.low hB2 hB);have Hnm:=Lh hnm;clear hx1 hx2 hB2 hnm;go_wp2_with (
    first
    | (
     go_at_call 46
     refine Hnm.out.mono ?_;rintro e w3 ⟨rfl,hb3⟩;rw[Hbn.out];have z2:=(hb3.cell (p:=⟨w.heap.size,2,none⟩) (show w.heap.size<w2.heap.size by omega)).trans y2;have Hb3:=Lh hb3;clear hb3)
    | (
     go_at_call 34
     refine(Hlb.out _ (w.heap.size+1) (HB2.out.trans (Hb3.out.mono (by omega))) (HX2.out.low Hb3.out)).mono ?_;rintro e w4 ⟨rfl,hb4⟩))
   refine bodyPost_ret (v:=.tuple #[.slice none 0 0,.bool false]) (by simp[results,Try.results49,go_sem]) rfl ?_;rw[Hno.out];refine⟨?_,_,rfl,λc h=>by cases h⟩;exact(HB2.out.trans (Hb3.out.mono (by omega))).trans (hb4.mono (by have:=Hb3.out.size;omega))
  | false=>
   have Hyes:=Lh (show cL s c=true from Hok.out);have hlen:s.lits.length=2:=by have:=Hbn.out;unfold aY at this;simp at this;exact this.1.1.2
   have hbad:dB s c=false:=Hbb.out;have hin:∀k,k<2->li s k<c.length/\s.lits[k]? =some (li s k:Int):=λk hk=>by
    unfold dB at hbad;have h1:dE s c.length k=false:=by
     cases h:dE s c.length k with
     | false=>rfl
     | true=>rw[eB (by rw[hlen];exact hk) h]at hbad;cases hbad
    unfold dE at h1;simp only[decide_eq_false_iff_not,not_or]at h1;have h3:k<s.lits.length:=(by rw[hlen];exact hk);unfold li;rw[List.getElem?_eq_getElem h3]at h1 ⊢;simp only[Option.getD_some]at h1 ⊢;exact⟨by omega,by rw[Int.toNat_of_nonneg (by omega)]⟩
   obtain⟨hi0,hi1⟩:=hin 0 (by omega);have hli:=HStp.out.lits;unfold bM at hli;obtain⟨a2,o2,rfl,ha2,ho2⟩:=Rd.leaf_at (f:=λn=>.int .i64 n) hli (k:=0) (by omega);obtain⟨i,hi⟩:∃i,li s 0=i:=⟨_,rfl⟩;rw[hi]at hi0 hi1;have e0:s.lits[0]'(by omega)=(i:Int):=by
    rw[List.getElem?_eq_getElem (by omega)]at hi1;exact Option.some.inj hi1
   simp only[e0,Nat.add_zero]at ho2;have Hi:=Lh hi;have Oi:=Lh ho2;have Hin:=Lh hin;rw[hlen]at HStp Hlb ⊢;clear hli ho2 hi hi1 e0 hin hbad hlen;go_enter Try.func49,Try.ntmps49;go_upto_region 1 with fail
   obtain⟨hx1,hx2,hB2,hz2⟩:=aO w (.cells #[.int .i64 s.rule,v1,(.slice (some ⟨a2,o2,none⟩) 2 c2),v3,v4,v5] 45) (.cells #[.slice Ac c.length cc] 38);have hx1:dH w.heap.size 45 (.int .i64 s.rule) v1 ((.slice (some ⟨a2,o2,none⟩) 2 c2)) v3 v4 v5 _:=hx1;have hx2:aU (w.heap.size+1) 38 (.slice Ac c.length cc) _:=hx2;generalize (w.alloc (.cells #[.int .i64 s.rule,v1,(.slice (some ⟨a2,o2,none⟩) 2 c2),v3,v4,v5] 45)).alloc (.cells #[.slice Ac c.length cc] 38)=w2 at hx1 hx2 hB2 hz2 ⊢;obtain⟨y0,y1,y2,y3,y4,y5⟩:=hx1.cells;have x0:=hx2.cell;have HX1:=Lh hx1;have HX2:=Lh hx2;have HB2:=Lh hB2;have hnm:=aN s 1 2 2 false v1 _ v3 v4 v5 B w2 (HStp.out.low hB2 hB);have Hnm:=Lh hnm;clear hx1 hx2 hB2 hnm;go_upto_region 6 with(
    first
    | (
     go_at_call 46
     refine Hnm.out.mono ?_;rintro e w3 ⟨rfl,hb3⟩;rw[Hbn.out];have z2:=(hb3.cell (p:=⟨w.heap.size,2,none⟩) (show w.heap.size<w2.heap.size by omega)).trans y2;have Hb3:=Lh hb3;clear hb3)
    | (
     go_at_call 34
     refine(Hlb.out _ (w.heap.size+1) (HB2.out.trans (Hb3.out.mono (by omega))) (HX2.out.low Hb3.out)).mono ?_;rintro e w4 ⟨rfl,hb4⟩;have Hb4:=Lh hb4;clear hb4))
   have z2:=(Hb4.out.cell (p:=⟨w.heap.size,2,none⟩) (show w.heap.size<w3.heap.size by have:=Hb3.out.size;omega)).trans z2;have hlow4:Below w.heap.size w w4:=(HB2.out.trans (Hb3.out.mono (by omega))).trans (Hb4.out.mono (by have:=Hb3.out.size;omega));have oi:=(hlow4.cell (p:=⟨a2,o2,none⟩) (show a2<w.heap.size by omega)).trans Oi.out;have hz3:=Hb3.out.size;have hz4:=Hb4.out.size;go_upto_region 7 with fail
   have hbx5:=aD w4 (.cells #[.int .i64 (i:Nat)] 3);have hxi5:aU w4.heap.size 3 (.int .i64 (i:Nat)) (w4.alloc (.cells #[.int .i64 (i:Nat)] 3)):=heap_alloc_new w4 _;generalize w4.alloc (.cells #[.int .i64 (i:Nat)] 3)=w5 at hbx5 hxi5 ⊢;have hx5:=((HX2.out.low Hb3.out).low Hb4.out).low hbx5;have hs5:=((HX1.out.low Hb3.out).low Hb4.out).low hbx5;have hlow5:Below w.heap.size w w5:=hlow4.trans (hbx5.mono (by omega));have hz5:=hbx5.size;have hzi5:=hxi5.lt;obtain⟨ab,off,n0,f1,ys1,A1,c1,f2,ys2,A3,c3,rfl,hxk,hab,k0,k1,k2,k3,k4,hr1,hr2⟩:=(Hc.out.low hlow5 hB).lt_at hi0;have hii:¬((c.length:Int)<=(i:Int)):=by omega
   obtain⟨zy0,-,zy2,zy3,-,-⟩:=hs5.cells;have Hx5:=Lh hx5;have Hs5:=Lh hs5;have Hxi5:=Lh hxi5;have Hlow5:=Lh hlow5;have Hxk:=Lh hxk;have HR1:=Lh hr1;have HR2:=Lh hr2;have habl:ab<w5.heap.size:=by omega
   have hxil:w4.heap.size<w5.heap.size:=hzi5;have hci:c[i]? =some ⟨n0,.mk f1 ys1,.mk f2 ys2⟩:=by rw[List.getElem?_eq_getElem hi0,hxk]
   have Hci:=Lh hci;clear hx5 hs5 hxi5 hlow5 hxk hr1 hr2 hbx5 hlow4 z2 oi y0 y1 y2 y3 y4 y5 x0 hci hzi5 Hlb Hnm;have hz50:=Hlow5.out.size;have hrl:s.right.length=2:=by have:=Hbn.out;unfold aY at this;simp at this;exact this.1.2
   obtain⟨-,-,-,-,A3',cr,-,-,-,-,-,-,hv3,-⟩:=HStp.out.forms;have hri:=HStp.out.right;rw[hv3]at hri;rw[hrl]at hv3 hri;unfold wI at hri;obtain⟨a3,o3,hA3,ha3,hr0⟩:=Rd.leaf_at (f:=λb=>.bool b) hri (k:=0) (by omega);obtain⟨a3',o3',hA3',-,hr1⟩:=Rd.leaf_at (f:=λb=>.bool b) hri (k:=1) (by omega);rw[hA3]at hv3 hA3';injection hA3' with hA3'
   injection hA3' with e3 e4
   subst e3 e4;obtain⟨r0,hr0'⟩:∃r,s.right[0]'(by omega)=r:=⟨_,rfl⟩;obtain⟨r1,hr1'⟩:∃r,s.right[1]'(by omega)=r:=⟨_,rfl⟩;rw[hr0',Nat.add_zero]at hr0;rw[hr1']at hr1;have hri0:ri s 0=r0:=by unfold ri;rw[List.getElem?_eq_getElem (by omega),hr0'];rfl
   have hri1:ri s 1=r1:=by unfold ri;rw[List.getElem?_eq_getElem (by omega),hr1'];rfl
   obtain⟨hj0,hj1⟩:=Hin.out 1 (by omega);have hli:=HStp.out.lits;unfold bM at hli;have hlen:s.lits.length=2:=by have:=Hbn.out;unfold aY at this;simp at this;exact this.1.1.2
   obtain⟨a2',o2',hA2',-,hoj⟩:=Rd.leaf_at (f:=λn=>.int .i64 n) hli (k:=1) (by omega);injection hA2' with hA2'
   injection hA2' with e5 e6
   subst e5 e6;obtain⟨j,hj⟩:∃j,li s 1=j:=⟨_,rfl⟩;rw[hj]at hj0 hj1;have e1:s.lits[1]'(by omega)=(j:Int):=by
    rw[List.getElem?_eq_getElem (by omega)]at hj1;exact Option.some.inj hj1
   simp only[e1]at hoj;have ojw:=(Hlow5.out.cell (p:=⟨a2,o2+1,none⟩) (show a2<w.heap.size by omega)).trans hoj;have V3:=Lh hv3;have Hj:=Lh hj;have Hri0:=Lh hri0;have Hri1:=Lh hri1;obtain⟨Bj,oj,n3,f3,ys3,A5,c5,f4,ys4,A6,c6,hAj,hyk,hbj,l0,l1,l2,l3,l4,hr3,hr4⟩:=(Hc.out.low Hlow5.out hB).lt_at hj0;injection hAj with hAj
   injection hAj with e7 e8
   subst e7 e8;have hlx:LtV w5 B ⟨n0,.mk f1 ys1,.mk f2 ys2⟩ (.agg #[.bool n0,.int .i64 f1,.slice A1 ys1.length c1,.int .i64 f2,.slice A3 ys2.length c3]):=⟨A1,c1,A3,c3,rfl,HR1.out,HR2.out⟩;have hly:LtV w5 B ⟨n3,.mk f3 ys3,.mk f4 ys4⟩ (.agg #[.bool n3,.int .i64 f3,.slice A5 ys3.length c5,.int .i64 f4,.slice A6 ys4.length c6]):=⟨A5,c5,A6,c6,rfl,hr3,hr4⟩;obtain⟨fa,xa,Aa,ca,ft,xt,At,ct,hsa,hst,hra,hrt,hpa⟩:=kR hlx r0;obtain⟨fu,xu,Au,cu,fv,xv,Av,cv,hsu,hsv,hru',hrv,hpu⟩:=kR hly r1;have Hpa:=Lh hpa;have Hpu:=Lh hpu;have Hra:=Lh hra;have Hrt:=Lh hrt;have Hru:=Lh hru';have Hrv:=Lh hrv;have hcj:c[j]? =some ⟨n3,.mk f3 ys3,.mk f4 ys4⟩:=by rw[List.getElem?_eq_getElem hj0,hyk]
   have hres':∀u,cB (.mk fa xa) (.mk fu xu)=u->bA s c=if i=j\/n0=true\/n3=true\/bJ fa xa.length=true\/bJ fu xu.length=true\/bJ ft xt.length≠bJ fv xv.length then none
    else(match u with | some σ=>some (gU σ (c.eraseIdx i++[(⟨true,.mk ft xt,.mk fv xv⟩:Lt)])) | none=>none):=λu hu=>by
    rw[Hsm.out,if_neg (by rw[Hyes.out];decide)];unfold lO;rw[Hi.out,Hj.out,Hci.out,hcj,Hri0.out,Hri1.out];simp only[hsa,hst,hsu,hsv,hu,Tm.fn,Tm.args];all_goals (cases u <;> rfl)
   obtain⟨u,hu⟩:∃u,cB (.mk fa xa) (.mk fu xu)=u:=⟨_,rfl⟩;have Hres:=Lh (hres' u hu);have Hu:=Lh hu;have hw5:∀b:Nat,b<w.heap.size->b<w5.heap.size:=λb h=>by omega
   have hx16:∀w',Below w5.heap.size w5 w'->w'.cell? ⟨w.heap.size+1,0,none⟩=some (.slice (some ⟨ab,off,none⟩) c.length cc)/\w'.cell? ⟨w4.heap.size,0,none⟩=some (.int .i64 (i:Nat))/\
    w'.cell? ⟨ab,off+i*5,none⟩=some (.bool n0)/\w'.cell? ⟨ab,off+i*5+1,none⟩=some (.int .i64 f1)/\w'.cell? ⟨ab,off+i*5+2,none⟩=some (.slice A1 ys1.length c1)/\w'.cell? ⟨ab,off+i*5+3,none⟩=some (.int .i64 f2)/\w'.cell? ⟨ab,off+i*5+4,none⟩=some (.slice A3 ys2.length c3)/\
    w'.cell? ⟨w.heap.size,3,none⟩=some v3/\w'.cell? ⟨a3,o3,none⟩=some (.bool r0):=λw' hb=>
    ⟨(
     Hx5.out.low hb).cell,(Hxi5.out.low hb).cell,(hb.cell (p:=⟨ab,off+i*5,none⟩) habl).trans k0,(hb.cell (p:=⟨ab,off+i*5+1,none⟩) habl).trans k1,(hb.cell (p:=⟨ab,off+i*5+2,none⟩) habl).trans k2,(hb.cell (p:=⟨ab,off+i*5+3,none⟩) habl).trans k3,(hb.cell (p:=⟨ab,off+i*5+4,none⟩) habl).trans k4,
     (Hs5.out.low hb).cells.2.2.2.1,(hb.cell (p:=⟨a3,o3,none⟩) (hw5 a3 (by omega))).trans ((Hlow5.out.cell (p:=⟨a3,o3,none⟩) (show a3<w.heap.size by omega)).trans hr0)⟩
   have hx17:∀w',Below w5.heap.size w5 w'->w'.cell? ⟨w.heap.size+1,0,none⟩=some (.slice (some ⟨ab,off,none⟩) c.length cc)/\True/\
    w'.cell? ⟨ab,off+j*5,none⟩=some (.bool n3)/\w'.cell? ⟨ab,off+j*5+1,none⟩=some (.int .i64 f3)/\w'.cell? ⟨ab,off+j*5+2,none⟩=some (.slice A5 ys3.length c5)/\w'.cell? ⟨ab,off+j*5+3,none⟩=some (.int .i64 f4)/\w'.cell? ⟨ab,off+j*5+4,none⟩=some (.slice A6 ys4.length c6)/\
    w'.cell? ⟨w.heap.size,3,none⟩=some v3/\w'.cell? ⟨a3,o3+1,none⟩=some (.bool r1):=λw' hb=>
    ⟨(
     Hx5.out.low hb).cell,trivial,(hb.cell (p:=⟨ab,off+j*5,none⟩) habl).trans l0,(hb.cell (p:=⟨ab,off+j*5+1,none⟩) habl).trans l1,(hb.cell (p:=⟨ab,off+j*5+2,none⟩) habl).trans l2,(hb.cell (p:=⟨ab,off+j*5+3,none⟩) habl).trans l3,(hb.cell (p:=⟨ab,off+j*5+4,none⟩) habl).trans l4,
     (Hs5.out.low hb).cells.2.2.2.1,(hb.cell (p:=⟨a3,o3+1,none⟩) (hw5 a3 (by omega))).trans ((Hlow5.out.cell (p:=⟨a3,o3+1,none⟩) (show a3<w.heap.size by omega)).trans hr1)⟩
   have Hx16:=Lh hx16;have Hx17:=Lh hx17;have hjj:¬((c.length:Int)<=(j:Int)):=by omega
   have hmi:(⟨n0,.mk f1 ys1,.mk f2 ys2⟩:Lt)∈c:=by rw[<-Hxk.out];exact List.getElem_mem hi0
   have hmj:(⟨n3,.mk f3 ys3,.mk f4 ys4⟩:Lt)∈c:=by rw[<-hyk];exact List.getElem_mem hj0
   clear hres' hu hrl hv3 hri hA3 hr0 hr1 hr0' hr1' hri0 hri1 hj1 hli hlen hoj hj e1 hyk l0 l1 l2 l3 l4 k0 k1 k2 k3 k4 hlx hly hpa hpu hra hrt hru' hrv hcj hx16 hx17 hr3 hr4;go_upto_region 16 with fail
   clear ojw;refine dC (sp:=λk=>k==12 || k==13) (vals:=λx k=>match k with | 0=>(.slice (some ⟨ab,off,none⟩) c.length cc:Value) | 1=>(.int .i64 (i:Nat):Value) | 2=>(.pointer (some ⟨ab,off+i*5,none⟩):Value) | 3=>(.agg #[.bool n0,.int .i64 f1,.slice A1 ys1.length c1,.int .i64 f2,.slice A3 ys2.length c3]:Value) | 4=>(.pointer (some ⟨w.heap.size,3,none⟩):Value) | 5=>(.slice (some ⟨a3,o3,none⟩) 2 cr:Value) | 6=>(.pointer (some ⟨a3,o3+0,none⟩):Value) | 7=>(.bool r0:Value) | 8=>(.tuple #[.agg #[.int .i64 fa,.slice Aa xa.length ca],.agg #[.int .i64 ft,.slice At xt.length ct]]:Value) | 9=>(.tuple #[.agg #[.int .i64 fa,.slice Aa xa.length ca],.agg #[.int .i64 ft,.slice At xt.length ct]]:Value) | 10=>(.agg #[.int .i64 fa,.slice Aa xa.length ca]:Value) | 11=>(.agg #[.int .i64 ft,.slice At xt.length ct]:Value) | 12=>(x 12:Value) | 13=>(x 13:Value) | 14=>(undef:Value) | 15=>(undef:Value) | _=>undef) (D:=λk=>match k with | 0=>some 105 | 1=>some 106 | 2=>some 107 | 3=>some 108 | 4=>some 109 | 5=>some 110 | 6=>some 111 | 7=>some 112 | 8=>some 113 | 9=>some 104 | 10=>some 114 | 11=>some 115 | 12=>some 12 | 13=>some 13 | _=>none) (J:=λaA x w'=>cP w5 87 (.int .i64 0) (.slice none 0 0) [⟨aA.getD 12 false,aA.getD 14 false,x 12,.int .i64 fa,.slice Aa xa.length ca⟩,⟨aA.getD 13 false,aA.getD 15 false,x 13,.int .i64 ft,.slice At xt.length ct⟩] w') (by kernel_rfl) ?hs ?hd ?hsp ?h0 ?step ?fin
   case hs=>
    intro i o ho;have hi:i<16:=(Array.getElem?_eq_some_iff.1 ho).1;rcases lT hi with rfl | rfl | rfl | rfl | rfl | rfl | rfl | rfl | rfl | rfl | rfl | rfl | rfl | rfl | rfl | rfl
    all_goals obtain rfl:=Option.some.inj (show some _=some o from ho)
    all_goals exact⟨by simp[Region.binds],rfl,λs hs=>by first | (cases hs;done) | (obtain rfl:=Option.some.inj hs;show _<177;decide)⟩
   case hd=>
    intro k k' s hk hk' h h';have hk:k<16:=hk;have hk':k'<16:=hk';refine dL (D:=[some 105,some 106,some 107,some 108,some 109,some 110,some 111,some 112,some 113,some 104,some 114,some 115,some 12,some 13,none,none]) (by decide) (k:=k) (k':=k') (s:=s) ?_ ?_
    . rcases lT hk with rfl | rfl | rfl | rfl | rfl | rfl | rfl | rfl | rfl | rfl | rfl | rfl | rfl | rfl | rfl | rfl
      all_goals exact congrArg some h
    rcases lT hk' with rfl | rfl | rfl | rfl | rfl | rfl | rfl | rfl | rfl | rfl | rfl | rfl | rfl | rfl | rfl | rfl
    all_goals exact congrArg some h'
   case hsp=>
    intro k s hk hks x;have hk:k<16:=hk;rcases lT hk with rfl | rfl | rfl | rfl | rfl | rfl | rfl | rfl | rfl | rfl | rfl | rfl | rfl | rfl | rfl | rfl
    all_goals first | rfl | (obtain rfl:=Option.some.inj hks;rfl) | cases hks
   case h0=>
    exact cP.start ((Below.refl _ _).drew) (by simp)
   case step=>
    intro aA a w' i o hz hts hI hJ ho hl hdep;have hz:aA.size=16:=hz;have hi:i<16:=(Array.getElem?_eq_some_iff.1 ho).1;try dsimp only at hJ
    obtain⟨q0,q1,q2,q3,q4,q5,q6,q7,q8⟩:=Hx16.out w' hJ.1;rcases lT hi with rfl | rfl | rfl | rfl | rfl | rfl | rfl | rfl | rfl | rfl | rfl | rfl | rfl | rfl | rfl | rfl
    all_goals obtain rfl:=Option.some.inj (show some _=some o from ho)
    . have e3:(a.tmps[3]?).getD undef=(.pointer (some ⟨w.heap.size+1,0,none⟩):Value):=gD (hI.fix 3 (by decide));refine aF ho rfl (aE (v:=.slice (some ⟨ab,off,none⟩) c.length cc) (w':=w') (by simp[execOp,e3,q0,go_sem]) ⟨_,rfl,Or.inr rfl,?_⟩);have hK:=hJ;rw[<-aB (l:=aA) (i:=0) (k:=12) (by decide)]at hK;rw[<-aB (l:=aA) (i:=0) (k:=13) (by decide)]at hK;rw[<-aB (l:=aA) (i:=0) (k:=14) (by decide)]at hK;rw[<-aB (l:=aA) (i:=0) (k:=15) (by decide)]at hK;rw[<-aC (a:=a) (d:=105) (s:=12) (v:=.slice (some ⟨ab,off,none⟩) c.length cc) (by decide)]at hK;rw[<-aC (a:=a) (d:=105) (s:=13) (v:=.slice (some ⟨ab,off,none⟩) c.length cc) (by decide)]at hK;exact hK
    . have e8:(a.tmps[8]?).getD undef=(.pointer (some ⟨w4.heap.size,0,none⟩):Value):=gD (hI.fix 8 (by decide));refine aF ho rfl (aE (v:=.int .i64 (i:Nat)) (w':=w') (by simp[execOp,e8,q1,go_sem]) ⟨_,rfl,Or.inr rfl,?_⟩);have hK:=hJ;rw[<-aB (l:=aA) (i:=1) (k:=12) (by decide)]at hK;rw[<-aB (l:=aA) (i:=1) (k:=13) (by decide)]at hK;rw[<-aB (l:=aA) (i:=1) (k:=14) (by decide)]at hK;rw[<-aB (l:=aA) (i:=1) (k:=15) (by decide)]at hK;rw[<-aC (a:=a) (d:=106) (s:=12) (v:=.int .i64 (i:Nat)) (by decide)]at hK;rw[<-aC (a:=a) (d:=106) (s:=13) (v:=.int .i64 (i:Nat)) (by decide)]at hK;exact hK
    . have e105:(a.tmps[105]?).getD undef=(.slice (some ⟨ab,off,none⟩) c.length cc:Value):=gD ((hI.done 0 105 (by simp) rfl (hdep ⟨0,.data⟩ (by simp) rfl)).resolve_left (by decide));have e106:(a.tmps[106]?).getD undef=(.int .i64 (i:Nat):Value):=gD ((hI.done 1 106 (by simp) rfl (hdep ⟨1,.data⟩ (by simp) rfl)).resolve_left (by decide));refine aF ho rfl (aE (v:=.pointer (some ⟨ab,off+i*5,none⟩)) (w':=w') (by simp[execOp,e105,e106,hi0,hii,go_sem]) ⟨_,rfl,Or.inr rfl,?_⟩);have hK:=hJ;rw[<-aB (l:=aA) (i:=2) (k:=12) (by decide)]at hK;rw[<-aB (l:=aA) (i:=2) (k:=13) (by decide)]at hK;rw[<-aB (l:=aA) (i:=2) (k:=14) (by decide)]at hK;rw[<-aB (l:=aA) (i:=2) (k:=15) (by decide)]at hK;rw[<-aC (a:=a) (d:=107) (s:=12) (v:=.pointer (some ⟨ab,off+i*5,none⟩)) (by decide)]at hK;rw[<-aC (a:=a) (d:=107) (s:=13) (v:=.pointer (some ⟨ab,off+i*5,none⟩)) (by decide)]at hK;exact hK
    . have e107:(a.tmps[107]?).getD undef=(.pointer (some ⟨ab,off+i*5,none⟩):Value):=gD ((hI.done 2 107 (by simp) rfl (hdep ⟨2,.data⟩ (by simp) rfl)).resolve_left (by decide));refine aF ho rfl (aE (v:=.agg #[.bool n0,.int .i64 f1,.slice A1 ys1.length c1,.int .i64 f2,.slice A3 ys2.length c3]) (w':=w') (by simp[execOp,e107,q2,q3,q4,q5,q6,go_sem]) ⟨_,rfl,Or.inr rfl,?_⟩);have hK:=hJ;rw[<-aB (l:=aA) (i:=3) (k:=12) (by decide)]at hK;rw[<-aB (l:=aA) (i:=3) (k:=13) (by decide)]at hK;rw[<-aB (l:=aA) (i:=3) (k:=14) (by decide)]at hK;rw[<-aB (l:=aA) (i:=3) (k:=15) (by decide)]at hK;rw[<-aC (a:=a) (d:=108) (s:=12) (v:=.agg #[.bool n0,.int .i64 f1,.slice A1 ys1.length c1,.int .i64 f2,.slice A3 ys2.length c3]) (by decide)]at hK;rw[<-aC (a:=a) (d:=108) (s:=13) (v:=.agg #[.bool n0,.int .i64 f1,.slice A1 ys1.length c1,.int .i64 f2,.slice A3 ys2.length c3]) (by decide)]at hK;exact hK
    . have e2:(a.tmps[2]?).getD undef=(.pointer (some ⟨w.heap.size,0,none⟩):Value):=gD (hI.fix 2 (by decide));refine aF ho rfl (aE (v:=.pointer (some ⟨w.heap.size,3,none⟩)) (w':=w') (by simp[execOp,e2,go_sem]) ⟨_,rfl,Or.inr rfl,?_⟩);have hK:=hJ;rw[<-aB (l:=aA) (i:=4) (k:=12) (by decide)]at hK;rw[<-aB (l:=aA) (i:=4) (k:=13) (by decide)]at hK;rw[<-aB (l:=aA) (i:=4) (k:=14) (by decide)]at hK;rw[<-aB (l:=aA) (i:=4) (k:=15) (by decide)]at hK;rw[<-aC (a:=a) (d:=109) (s:=12) (v:=.pointer (some ⟨w.heap.size,3,none⟩)) (by decide)]at hK;rw[<-aC (a:=a) (d:=109) (s:=13) (v:=.pointer (some ⟨w.heap.size,3,none⟩)) (by decide)]at hK;exact hK
    . have e109:(a.tmps[109]?).getD undef=(.pointer (some ⟨w.heap.size,3,none⟩):Value):=gD ((hI.done 4 109 (by simp) rfl (hdep ⟨4,.data⟩ (by simp) rfl)).resolve_left (by decide));refine aF ho rfl (aE (v:=.slice (some ⟨a3,o3,none⟩) 2 cr) (w':=w') (by simp[execOp,e109,q7,V3.out,go_sem]) ⟨_,rfl,Or.inr rfl,?_⟩);have hK:=hJ;rw[<-aB (l:=aA) (i:=5) (k:=12) (by decide)]at hK;rw[<-aB (l:=aA) (i:=5) (k:=13) (by decide)]at hK;rw[<-aB (l:=aA) (i:=5) (k:=14) (by decide)]at hK;rw[<-aB (l:=aA) (i:=5) (k:=15) (by decide)]at hK;rw[<-aC (a:=a) (d:=110) (s:=12) (v:=.slice (some ⟨a3,o3,none⟩) 2 cr) (by decide)]at hK;rw[<-aC (a:=a) (d:=110) (s:=13) (v:=.slice (some ⟨a3,o3,none⟩) 2 cr) (by decide)]at hK;exact hK
    . have e110:(a.tmps[110]?).getD undef=(.slice (some ⟨a3,o3,none⟩) 2 cr:Value):=gD ((hI.done 5 110 (by simp) rfl (hdep ⟨5,.data⟩ (by simp) rfl)).resolve_left (by decide));refine aF ho rfl (aE (v:=.pointer (some ⟨a3,o3+0,none⟩)) (w':=w') (by simp[execOp,e110,go_sem]) ⟨_,rfl,Or.inr rfl,?_⟩);have hK:=hJ;rw[<-aB (l:=aA) (i:=6) (k:=12) (by decide)]at hK;rw[<-aB (l:=aA) (i:=6) (k:=13) (by decide)]at hK;rw[<-aB (l:=aA) (i:=6) (k:=14) (by decide)]at hK;rw[<-aB (l:=aA) (i:=6) (k:=15) (by decide)]at hK;rw[<-aC (a:=a) (d:=111) (s:=12) (v:=.pointer (some ⟨a3,o3+0,none⟩)) (by decide)]at hK;rw[<-aC (a:=a) (d:=111) (s:=13) (v:=.pointer (some ⟨a3,o3+0,none⟩)) (by decide)]at hK;exact hK
    . have e111:(a.tmps[111]?).getD undef=(.pointer (some ⟨a3,o3+0,none⟩):Value):=gD ((hI.done 6 111 (by simp) rfl (hdep ⟨6,.data⟩ (by simp) rfl)).resolve_left (by decide));refine aF ho rfl (aE (v:=.bool r0) (w':=w') (by simp[execOp,e111,q8,go_sem]) ⟨_,rfl,Or.inr rfl,?_⟩);have hK:=hJ;rw[<-aB (l:=aA) (i:=7) (k:=12) (by decide)]at hK;rw[<-aB (l:=aA) (i:=7) (k:=13) (by decide)]at hK;rw[<-aB (l:=aA) (i:=7) (k:=14) (by decide)]at hK;rw[<-aB (l:=aA) (i:=7) (k:=15) (by decide)]at hK;rw[<-aC (a:=a) (d:=112) (s:=12) (v:=.bool r0) (by decide)]at hK;rw[<-aC (a:=a) (d:=112) (s:=13) (v:=.bool r0) (by decide)]at hK;exact hK
    . have e108:(a.tmps[108]?).getD undef=(.agg #[.bool n0,.int .i64 f1,.slice A1 ys1.length c1,.int .i64 f2,.slice A3 ys2.length c3]:Value):=gD ((hI.done 3 108 (by simp) rfl (hdep ⟨3,.data⟩ (by simp) rfl)).resolve_left (by decide));have e112:(a.tmps[112]?).getD undef=(.bool r0:Value):=gD ((hI.done 7 112 (by simp) rfl (hdep ⟨7,.data⟩ (by simp) rfl)).resolve_left (by decide));refine aF ho rfl (aG (by simp[execOp,resolve,invoke,e108,e112,go_sem]) (Hpa.out w') ?_);rintro e w6 ⟨rfl,hb6⟩;refine⟨_,rfl,_,rfl,Or.inr rfl,?_⟩;have hK:=hJ.step hb6;rw[<-aB (l:=aA) (i:=8) (k:=12) (by decide)]at hK;rw[<-aB (l:=aA) (i:=8) (k:=13) (by decide)]at hK;rw[<-aB (l:=aA) (i:=8) (k:=14) (by decide)]at hK;rw[<-aB (l:=aA) (i:=8) (k:=15) (by decide)]at hK;rw[<-aC (a:=a) (d:=113) (s:=12) (v:=.tuple #[.agg #[.int .i64 fa,.slice Aa xa.length ca],.agg #[.int .i64 ft,.slice At xt.length ct]]) (by decide)]at hK;rw[<-aC (a:=a) (d:=113) (s:=13) (v:=.tuple #[.agg #[.int .i64 fa,.slice Aa xa.length ca],.agg #[.int .i64 ft,.slice At xt.length ct]]) (by decide)]at hK;exact hK
    . have e113:(a.tmps[113]?).getD undef=(.tuple #[.agg #[.int .i64 fa,.slice Aa xa.length ca],.agg #[.int .i64 ft,.slice At xt.length ct]]:Value):=gD ((hI.done 8 113 (by simp) rfl (hdep ⟨8,.data⟩ (by simp) rfl)).resolve_left (by decide));refine aF ho rfl (aE (v:=.tuple #[.agg #[.int .i64 fa,.slice Aa xa.length ca],.agg #[.int .i64 ft,.slice At xt.length ct]]) (w':=w') (by simp[execOp,e113,go_sem]) ⟨_,rfl,Or.inr rfl,?_⟩);have hK:=hJ;rw[<-aB (l:=aA) (i:=9) (k:=12) (by decide)]at hK;rw[<-aB (l:=aA) (i:=9) (k:=13) (by decide)]at hK;rw[<-aB (l:=aA) (i:=9) (k:=14) (by decide)]at hK;rw[<-aB (l:=aA) (i:=9) (k:=15) (by decide)]at hK;rw[<-aC (a:=a) (d:=104) (s:=12) (v:=.tuple #[.agg #[.int .i64 fa,.slice Aa xa.length ca],.agg #[.int .i64 ft,.slice At xt.length ct]]) (by decide)]at hK;rw[<-aC (a:=a) (d:=104) (s:=13) (v:=.tuple #[.agg #[.int .i64 fa,.slice Aa xa.length ca],.agg #[.int .i64 ft,.slice At xt.length ct]]) (by decide)]at hK;exact hK
    . have e104:(a.tmps[104]?).getD undef=(.tuple #[.agg #[.int .i64 fa,.slice Aa xa.length ca],.agg #[.int .i64 ft,.slice At xt.length ct]]:Value):=gD ((hI.done 9 104 (by simp) rfl (hdep ⟨9,.data⟩ (by simp) rfl)).resolve_left (by decide));refine aF ho rfl (aE (v:=.agg #[.int .i64 fa,.slice Aa xa.length ca]) (w':=w') (by simp[execOp,e104,go_sem]) ⟨_,rfl,Or.inr rfl,?_⟩);have hK:=hJ;rw[<-aB (l:=aA) (i:=10) (k:=12) (by decide)]at hK;rw[<-aB (l:=aA) (i:=10) (k:=13) (by decide)]at hK;rw[<-aB (l:=aA) (i:=10) (k:=14) (by decide)]at hK;rw[<-aB (l:=aA) (i:=10) (k:=15) (by decide)]at hK;rw[<-aC (a:=a) (d:=114) (s:=12) (v:=.agg #[.int .i64 fa,.slice Aa xa.length ca]) (by decide)]at hK;rw[<-aC (a:=a) (d:=114) (s:=13) (v:=.agg #[.int .i64 fa,.slice Aa xa.length ca]) (by decide)]at hK;exact hK
    . have e104:(a.tmps[104]?).getD undef=(.tuple #[.agg #[.int .i64 fa,.slice Aa xa.length ca],.agg #[.int .i64 ft,.slice At xt.length ct]]:Value):=gD ((hI.done 9 104 (by simp) rfl (hdep ⟨9,.data⟩ (by simp) rfl)).resolve_left (by decide));refine aF ho rfl (aE (v:=.agg #[.int .i64 ft,.slice At xt.length ct]) (w':=w') (by simp[execOp,e104,go_sem]) ⟨_,rfl,Or.inr rfl,?_⟩);have hK:=hJ;rw[<-aB (l:=aA) (i:=11) (k:=12) (by decide)]at hK;rw[<-aB (l:=aA) (i:=11) (k:=13) (by decide)]at hK;rw[<-aB (l:=aA) (i:=11) (k:=14) (by decide)]at hK;rw[<-aB (l:=aA) (i:=11) (k:=15) (by decide)]at hK;rw[<-aC (a:=a) (d:=115) (s:=12) (v:=.agg #[.int .i64 ft,.slice At xt.length ct]) (by decide)]at hK;rw[<-aC (a:=a) (d:=115) (s:=13) (v:=.agg #[.int .i64 ft,.slice At xt.length ct]) (by decide)]at hK;exact hK
    . refine aF ho rfl (aE (v:=.pointer (some ⟨w'.heap.size,0,none⟩)) (w':=w'.alloc (.cells #[.int .i64 0,.slice none 0 0] 87)) (by simp[execOp,go_sem]) ⟨_,rfl,Or.inl (by decide),?_⟩);have hK:=hJ.lay 0 (by simp) hl;show cP w5 87 (.int .i64 0) (.slice none 0 0) [⟨(aA.setIfInBounds 12 true).getD 12 false,(aA.setIfInBounds 12 true).getD 14 false,(a.put (some 12) (.pointer (some ⟨w'.heap.size,0,none⟩))).tmps.getD 12 undef,.int .i64 fa,.slice Aa xa.length ca⟩,⟨(aA.setIfInBounds 12 true).getD 13 false,(aA.setIfInBounds 12 true).getD 15 false,(a.put (some 12) (.pointer (some ⟨w'.heap.size,0,none⟩))).tmps.getD 13 undef,.int .i64 ft,.slice At xt.length ct⟩] _
      rw[aJ (by omega)];rw[aB (l:=aA) (i:=12) (k:=13) (by decide)];rw[aB (l:=aA) (i:=12) (k:=14) (by decide)];rw[aB (l:=aA) (i:=12) (k:=15) (by decide)];rw[aS (a:=a) (s:=12) (by rw[hts];show 12<177;decide)];rw[aC (a:=a) (d:=12) (s:=13) (by decide)];exact hK
    . refine aF ho rfl (aE (v:=.pointer (some ⟨w'.heap.size,0,none⟩)) (w':=w'.alloc (.cells #[.int .i64 0,.slice none 0 0] 87)) (by simp[execOp,go_sem]) ⟨_,rfl,Or.inl (by decide),?_⟩);have hK:=hJ.lay 1 (by simp) hl;show cP w5 87 (.int .i64 0) (.slice none 0 0) [⟨(aA.setIfInBounds 13 true).getD 12 false,(aA.setIfInBounds 13 true).getD 14 false,(a.put (some 13) (.pointer (some ⟨w'.heap.size,0,none⟩))).tmps.getD 12 undef,.int .i64 fa,.slice Aa xa.length ca⟩,⟨(aA.setIfInBounds 13 true).getD 13 false,(aA.setIfInBounds 13 true).getD 15 false,(a.put (some 13) (.pointer (some ⟨w'.heap.size,0,none⟩))).tmps.getD 13 undef,.int .i64 ft,.slice At xt.length ct⟩] _
      rw[aB (l:=aA) (i:=13) (k:=12) (by decide)];rw[aJ (by omega)];rw[aB (l:=aA) (i:=13) (k:=14) (by decide)];rw[aB (l:=aA) (i:=13) (k:=15) (by decide)];rw[aC (a:=a) (d:=13) (s:=12) (by decide)];rw[aS (a:=a) (s:=13) (by rw[hts];show 13<177;decide)];exact hK
    . have l12:=hdep ⟨12,.data⟩ (by simp) rfl;have e114:(a.tmps[114]?).getD undef=(.agg #[.int .i64 fa,.slice Aa xa.length ca]:Value):=gD ((hI.done 10 114 (by simp) rfl (hdep ⟨10,.data⟩ (by simp) rfl)).resolve_left (by decide));have hla:aA.getD 12 false=true:=hdep ⟨12,.data⟩ (by simp) rfl;obtain⟨b,hx,hbx,hK⟩:=hJ.fill 0 (by simp) hla hl;obtain⟨m0,m1,m2⟩:=hbx.cells;have ebox:(a.tmps[12]?).getD undef=.pointer (some ⟨b,0,none⟩):=(by simpa using hx);refine aF ho rfl (bF (w':=(w'.setCell ⟨b,0,none⟩ (.int .i64 fa)).setCell ⟨b,1,none⟩ (.slice Aa xa.length ca)) (by simp[execOp,ebox,e114,m0,m1,m2,go_sem]) ⟨_,rfl,Or.inr rfl,?_⟩);show cP w5 87 (.int .i64 0) (.slice none 0 0) [⟨(aA.setIfInBounds 14 true).getD 12 false,(aA.setIfInBounds 14 true).getD 14 false,a.tmps.getD 12 undef,.int .i64 fa,.slice Aa xa.length ca⟩,⟨(aA.setIfInBounds 14 true).getD 13 false,(aA.setIfInBounds 14 true).getD 15 false,a.tmps.getD 13 undef,.int .i64 ft,.slice At xt.length ct⟩] _
      rw[aB (l:=aA) (i:=14) (k:=12) (by decide)];rw[aB (l:=aA) (i:=14) (k:=13) (by decide)];rw[aJ (by omega)];rw[aB (l:=aA) (i:=14) (k:=15) (by decide)];rw[hla];exact hK
    have l13:=hdep ⟨13,.data⟩ (by simp) rfl;have e115:(a.tmps[115]?).getD undef=(.agg #[.int .i64 ft,.slice At xt.length ct]:Value):=gD ((hI.done 11 115 (by simp) rfl (hdep ⟨11,.data⟩ (by simp) rfl)).resolve_left (by decide));have hla:aA.getD 13 false=true:=hdep ⟨13,.data⟩ (by simp) rfl;obtain⟨b,hx,hbx,hK⟩:=hJ.fill 1 (by simp) hla hl;obtain⟨m0,m1,m2⟩:=hbx.cells;have ebox:(a.tmps[13]?).getD undef=.pointer (some ⟨b,0,none⟩):=(by simpa using hx);refine aF ho rfl (bF (w':=(w'.setCell ⟨b,0,none⟩ (.int .i64 ft)).setCell ⟨b,1,none⟩ (.slice At xt.length ct)) (by simp[execOp,ebox,e115,m0,m1,m2,go_sem]) ⟨_,rfl,Or.inr rfl,?_⟩);show cP w5 87 (.int .i64 0) (.slice none 0 0) [⟨(aA.setIfInBounds 15 true).getD 12 false,(aA.setIfInBounds 15 true).getD 14 false,a.tmps.getD 12 undef,.int .i64 fa,.slice Aa xa.length ca⟩,⟨(aA.setIfInBounds 15 true).getD 13 false,(aA.setIfInBounds 15 true).getD 15 false,a.tmps.getD 13 undef,.int .i64 ft,.slice At xt.length ct⟩] _
    rw[aB (l:=aA) (i:=15) (k:=12) (by decide)];rw[aB (l:=aA) (i:=15) (k:=13) (by decide)];rw[aB (l:=aA) (i:=15) (k:=14) (by decide)];rw[aJ (by omega)];rw[hla];exact hK
   case fin=>
    intro aA x wz hz hall hJ;have hz:aA.size=16:=hz;have hall:∀i,i<16->aA.getD i false=true:=hall;simp only[List.size_toArray,List.length_cons,List.length_nil,Nat.reduceAdd,bI];simp
    rw[hall 12 (by omega),hall 13 (by omega),hall 14 (by omega),hall 15 (by omega)]at hJ;obtain⟨hbz,b1,b2,e1,e2,p1,p2,q1,q2,hne⟩:=hJ.out2;rw[e1,e2];obtain⟨w6,rfl⟩:∃w6:World,w6=wz:=⟨_,rfl⟩;obtain⟨ba,rfl⟩:∃b,b=b1:=⟨_,rfl⟩;obtain⟨bt,rfl⟩:∃b,b=b2:=⟨_,rfl⟩;have hz6:=hbz.size;have hal:=q1.lt;have htl:=q2.lt;have Hb6:=Lh hbz;have Ba:=Lh q1;have Bt:=Lh q2;have hx17':=λw' (hb:Below w6.heap.size w6 w')=>Hx17.out w' (Hb6.out.trans (hb.mono hz6))
    have Hx17':=Lh hx17';clear hJ hall hz hbz q1 q2 e1 e2 hne hx17';go_upto_region 17 with fail
    refine dC (sp:=λk=>k==12 || k==13) (vals:=λx k=>match k with | 0=>(.slice (some ⟨ab,off,none⟩) c.length cc:Value) | 1=>(.int .i64 (j:Nat):Value) | 2=>(.pointer (some ⟨ab,off+j*5,none⟩):Value) | 3=>(.agg #[.bool n3,.int .i64 f3,.slice A5 ys3.length c5,.int .i64 f4,.slice A6 ys4.length c6]:Value) | 4=>(.pointer (some ⟨w.heap.size,3,none⟩):Value) | 5=>(.slice (some ⟨a3,o3,none⟩) 2 cr:Value) | 6=>(.pointer (some ⟨a3,o3+1,none⟩):Value) | 7=>(.bool r1:Value) | 8=>(.tuple #[.agg #[.int .i64 fu,.slice Au xu.length cu],.agg #[.int .i64 fv,.slice Av xv.length cv]]:Value) | 9=>(.tuple #[.agg #[.int .i64 fu,.slice Au xu.length cu],.agg #[.int .i64 fv,.slice Av xv.length cv]]:Value) | 10=>(.agg #[.int .i64 fu,.slice Au xu.length cu]:Value) | 11=>(.agg #[.int .i64 fv,.slice Av xv.length cv]:Value) | 12=>(x 14:Value) | 13=>(x 15:Value) | 14=>(undef:Value) | 15=>(undef:Value) | _=>undef) (D:=λk=>match k with | 0=>some 117 | 1=>some 118 | 2=>some 119 | 3=>some 120 | 4=>some 121 | 5=>some 122 | 6=>some 123 | 7=>some 124 | 8=>some 125 | 9=>some 116 | 10=>some 126 | 11=>some 127 | 12=>some 14 | 13=>some 15 | _=>none) (J:=λaA x w'=>cP w6 87 (.int .i64 0) (.slice none 0 0) [⟨aA.getD 12 false,aA.getD 14 false,x 14,.int .i64 fu,.slice Au xu.length cu⟩,⟨aA.getD 13 false,aA.getD 15 false,x 15,.int .i64 fv,.slice Av xv.length cv⟩] w') (by kernel_rfl) ?hs ?hd ?hsp ?h0 ?step ?fin
    case hs=>
     intro i o ho;have hi:i<16:=(Array.getElem?_eq_some_iff.1 ho).1;rcases lT hi with rfl | rfl | rfl | rfl | rfl | rfl | rfl | rfl | rfl | rfl | rfl | rfl | rfl | rfl | rfl | rfl
     all_goals obtain rfl:=Option.some.inj (show some _=some o from ho)
     all_goals exact⟨by simp[Region.binds],rfl,λs hs=>by first | (cases hs;done) | (obtain rfl:=Option.some.inj hs;show _<177;decide)⟩
    case hd=>
     intro k k' s hk hk' h h';have hk:k<16:=hk;have hk':k'<16:=hk';refine dL (D:=[some 117,some 118,some 119,some 120,some 121,some 122,some 123,some 124,some 125,some 116,some 126,some 127,some 14,some 15,none,none]) (by decide) (k:=k) (k':=k') (s:=s) ?_ ?_
     . rcases lT hk with rfl | rfl | rfl | rfl | rfl | rfl | rfl | rfl | rfl | rfl | rfl | rfl | rfl | rfl | rfl | rfl
       all_goals exact congrArg some h
     rcases lT hk' with rfl | rfl | rfl | rfl | rfl | rfl | rfl | rfl | rfl | rfl | rfl | rfl | rfl | rfl | rfl | rfl
     all_goals exact congrArg some h'
    case hsp=>
     intro k s hk hks x;have hk:k<16:=hk;rcases lT hk with rfl | rfl | rfl | rfl | rfl | rfl | rfl | rfl | rfl | rfl | rfl | rfl | rfl | rfl | rfl | rfl
     all_goals first | rfl | (obtain rfl:=Option.some.inj hks;rfl) | cases hks
    case h0=>
     exact cP.start ((Below.refl _ _).drew) (by simp)
    case step=>
     intro aA a w' i o hz hts hI hJ ho hl hdep;have hz:aA.size=16:=hz;have hi:i<16:=(Array.getElem?_eq_some_iff.1 ho).1;try dsimp only at hJ
     obtain⟨q0,q1,q2,q3,q4,q5,q6,q7,q8⟩:=Hx17'.out w' hJ.1;rcases lT hi with rfl | rfl | rfl | rfl | rfl | rfl | rfl | rfl | rfl | rfl | rfl | rfl | rfl | rfl | rfl | rfl
     all_goals obtain rfl:=Option.some.inj (show some _=some o from ho)
     . have e3:(a.tmps[3]?).getD undef=(.pointer (some ⟨w.heap.size+1,0,none⟩):Value):=gD (hI.fix 3 (by decide));refine aF ho rfl (aE (v:=.slice (some ⟨ab,off,none⟩) c.length cc) (w':=w') (by simp[execOp,e3,q0,go_sem]) ⟨_,rfl,Or.inr rfl,?_⟩);have hK:=hJ;rw[<-aB (l:=aA) (i:=0) (k:=12) (by decide)]at hK;rw[<-aB (l:=aA) (i:=0) (k:=13) (by decide)]at hK;rw[<-aB (l:=aA) (i:=0) (k:=14) (by decide)]at hK;rw[<-aB (l:=aA) (i:=0) (k:=15) (by decide)]at hK;rw[<-aC (a:=a) (d:=117) (s:=14) (v:=.slice (some ⟨ab,off,none⟩) c.length cc) (by decide)]at hK;rw[<-aC (a:=a) (d:=117) (s:=15) (v:=.slice (some ⟨ab,off,none⟩) c.length cc) (by decide)]at hK;exact hK
     . have e11:(a.tmps[11]?).getD undef=(.int .i64 (j:Nat):Value):=gD (hI.fix 11 (by decide));refine aF ho rfl (aE (v:=.int .i64 (j:Nat)) (w':=w') (by simp[execOp,e11,q1,go_sem]) ⟨_,rfl,Or.inr rfl,?_⟩);have hK:=hJ;rw[<-aB (l:=aA) (i:=1) (k:=12) (by decide)]at hK;rw[<-aB (l:=aA) (i:=1) (k:=13) (by decide)]at hK;rw[<-aB (l:=aA) (i:=1) (k:=14) (by decide)]at hK;rw[<-aB (l:=aA) (i:=1) (k:=15) (by decide)]at hK;rw[<-aC (a:=a) (d:=118) (s:=14) (v:=.int .i64 (j:Nat)) (by decide)]at hK;rw[<-aC (a:=a) (d:=118) (s:=15) (v:=.int .i64 (j:Nat)) (by decide)]at hK;exact hK
     . have e117:(a.tmps[117]?).getD undef=(.slice (some ⟨ab,off,none⟩) c.length cc:Value):=gD ((hI.done 0 117 (by simp) rfl (hdep ⟨0,.data⟩ (by simp) rfl)).resolve_left (by decide));have e118:(a.tmps[118]?).getD undef=(.int .i64 (j:Nat):Value):=gD ((hI.done 1 118 (by simp) rfl (hdep ⟨1,.data⟩ (by simp) rfl)).resolve_left (by decide));refine aF ho rfl (aE (v:=.pointer (some ⟨ab,off+j*5,none⟩)) (w':=w') (by simp[execOp,e117,e118,hj0,hjj,go_sem]) ⟨_,rfl,Or.inr rfl,?_⟩);have hK:=hJ;rw[<-aB (l:=aA) (i:=2) (k:=12) (by decide)]at hK;rw[<-aB (l:=aA) (i:=2) (k:=13) (by decide)]at hK;rw[<-aB (l:=aA) (i:=2) (k:=14) (by decide)]at hK;rw[<-aB (l:=aA) (i:=2) (k:=15) (by decide)]at hK;rw[<-aC (a:=a) (d:=119) (s:=14) (v:=.pointer (some ⟨ab,off+j*5,none⟩)) (by decide)]at hK;rw[<-aC (a:=a) (d:=119) (s:=15) (v:=.pointer (some ⟨ab,off+j*5,none⟩)) (by decide)]at hK;exact hK
     . have e119:(a.tmps[119]?).getD undef=(.pointer (some ⟨ab,off+j*5,none⟩):Value):=gD ((hI.done 2 119 (by simp) rfl (hdep ⟨2,.data⟩ (by simp) rfl)).resolve_left (by decide));refine aF ho rfl (aE (v:=.agg #[.bool n3,.int .i64 f3,.slice A5 ys3.length c5,.int .i64 f4,.slice A6 ys4.length c6]) (w':=w') (by simp[execOp,e119,q2,q3,q4,q5,q6,go_sem]) ⟨_,rfl,Or.inr rfl,?_⟩);have hK:=hJ;rw[<-aB (l:=aA) (i:=3) (k:=12) (by decide)]at hK;rw[<-aB (l:=aA) (i:=3) (k:=13) (by decide)]at hK;rw[<-aB (l:=aA) (i:=3) (k:=14) (by decide)]at hK;rw[<-aB (l:=aA) (i:=3) (k:=15) (by decide)]at hK;rw[<-aC (a:=a) (d:=120) (s:=14) (v:=.agg #[.bool n3,.int .i64 f3,.slice A5 ys3.length c5,.int .i64 f4,.slice A6 ys4.length c6]) (by decide)]at hK;rw[<-aC (a:=a) (d:=120) (s:=15) (v:=.agg #[.bool n3,.int .i64 f3,.slice A5 ys3.length c5,.int .i64 f4,.slice A6 ys4.length c6]) (by decide)]at hK;exact hK
     . have e2:(a.tmps[2]?).getD undef=(.pointer (some ⟨w.heap.size,0,none⟩):Value):=gD (hI.fix 2 (by decide));refine aF ho rfl (aE (v:=.pointer (some ⟨w.heap.size,3,none⟩)) (w':=w') (by simp[execOp,e2,go_sem]) ⟨_,rfl,Or.inr rfl,?_⟩);have hK:=hJ;rw[<-aB (l:=aA) (i:=4) (k:=12) (by decide)]at hK;rw[<-aB (l:=aA) (i:=4) (k:=13) (by decide)]at hK;rw[<-aB (l:=aA) (i:=4) (k:=14) (by decide)]at hK;rw[<-aB (l:=aA) (i:=4) (k:=15) (by decide)]at hK;rw[<-aC (a:=a) (d:=121) (s:=14) (v:=.pointer (some ⟨w.heap.size,3,none⟩)) (by decide)]at hK;rw[<-aC (a:=a) (d:=121) (s:=15) (v:=.pointer (some ⟨w.heap.size,3,none⟩)) (by decide)]at hK;exact hK
     . have e121:(a.tmps[121]?).getD undef=(.pointer (some ⟨w.heap.size,3,none⟩):Value):=gD ((hI.done 4 121 (by simp) rfl (hdep ⟨4,.data⟩ (by simp) rfl)).resolve_left (by decide));refine aF ho rfl (aE (v:=.slice (some ⟨a3,o3,none⟩) 2 cr) (w':=w') (by simp[execOp,e121,q7,V3.out,go_sem]) ⟨_,rfl,Or.inr rfl,?_⟩);have hK:=hJ;rw[<-aB (l:=aA) (i:=5) (k:=12) (by decide)]at hK;rw[<-aB (l:=aA) (i:=5) (k:=13) (by decide)]at hK;rw[<-aB (l:=aA) (i:=5) (k:=14) (by decide)]at hK;rw[<-aB (l:=aA) (i:=5) (k:=15) (by decide)]at hK;rw[<-aC (a:=a) (d:=122) (s:=14) (v:=.slice (some ⟨a3,o3,none⟩) 2 cr) (by decide)]at hK;rw[<-aC (a:=a) (d:=122) (s:=15) (v:=.slice (some ⟨a3,o3,none⟩) 2 cr) (by decide)]at hK;exact hK
     . have e122:(a.tmps[122]?).getD undef=(.slice (some ⟨a3,o3,none⟩) 2 cr:Value):=gD ((hI.done 5 122 (by simp) rfl (hdep ⟨5,.data⟩ (by simp) rfl)).resolve_left (by decide));refine aF ho rfl (aE (v:=.pointer (some ⟨a3,o3+1,none⟩)) (w':=w') (by simp[execOp,e122,go_sem]) ⟨_,rfl,Or.inr rfl,?_⟩);have hK:=hJ;rw[<-aB (l:=aA) (i:=6) (k:=12) (by decide)]at hK;rw[<-aB (l:=aA) (i:=6) (k:=13) (by decide)]at hK;rw[<-aB (l:=aA) (i:=6) (k:=14) (by decide)]at hK;rw[<-aB (l:=aA) (i:=6) (k:=15) (by decide)]at hK;rw[<-aC (a:=a) (d:=123) (s:=14) (v:=.pointer (some ⟨a3,o3+1,none⟩)) (by decide)]at hK;rw[<-aC (a:=a) (d:=123) (s:=15) (v:=.pointer (some ⟨a3,o3+1,none⟩)) (by decide)]at hK;exact hK
     . have e123:(a.tmps[123]?).getD undef=(.pointer (some ⟨a3,o3+1,none⟩):Value):=gD ((hI.done 6 123 (by simp) rfl (hdep ⟨6,.data⟩ (by simp) rfl)).resolve_left (by decide));refine aF ho rfl (aE (v:=.bool r1) (w':=w') (by simp[execOp,e123,q8,go_sem]) ⟨_,rfl,Or.inr rfl,?_⟩);have hK:=hJ;rw[<-aB (l:=aA) (i:=7) (k:=12) (by decide)]at hK;rw[<-aB (l:=aA) (i:=7) (k:=13) (by decide)]at hK;rw[<-aB (l:=aA) (i:=7) (k:=14) (by decide)]at hK;rw[<-aB (l:=aA) (i:=7) (k:=15) (by decide)]at hK;rw[<-aC (a:=a) (d:=124) (s:=14) (v:=.bool r1) (by decide)]at hK;rw[<-aC (a:=a) (d:=124) (s:=15) (v:=.bool r1) (by decide)]at hK;exact hK
     . have e120:(a.tmps[120]?).getD undef=(.agg #[.bool n3,.int .i64 f3,.slice A5 ys3.length c5,.int .i64 f4,.slice A6 ys4.length c6]:Value):=gD ((hI.done 3 120 (by simp) rfl (hdep ⟨3,.data⟩ (by simp) rfl)).resolve_left (by decide));have e124:(a.tmps[124]?).getD undef=(.bool r1:Value):=gD ((hI.done 7 124 (by simp) rfl (hdep ⟨7,.data⟩ (by simp) rfl)).resolve_left (by decide));refine aF ho rfl (aG (by simp[execOp,resolve,invoke,e120,e124,go_sem]) (Hpu.out w') ?_);rintro e w6 ⟨rfl,hb6⟩;refine⟨_,rfl,_,rfl,Or.inr rfl,?_⟩;have hK:=hJ.step hb6;rw[<-aB (l:=aA) (i:=8) (k:=12) (by decide)]at hK;rw[<-aB (l:=aA) (i:=8) (k:=13) (by decide)]at hK;rw[<-aB (l:=aA) (i:=8) (k:=14) (by decide)]at hK;rw[<-aB (l:=aA) (i:=8) (k:=15) (by decide)]at hK;rw[<-aC (a:=a) (d:=125) (s:=14) (v:=.tuple #[.agg #[.int .i64 fu,.slice Au xu.length cu],.agg #[.int .i64 fv,.slice Av xv.length cv]]) (by decide)]at hK;rw[<-aC (a:=a) (d:=125) (s:=15) (v:=.tuple #[.agg #[.int .i64 fu,.slice Au xu.length cu],.agg #[.int .i64 fv,.slice Av xv.length cv]]) (by decide)]at hK;exact hK
     . have e125:(a.tmps[125]?).getD undef=(.tuple #[.agg #[.int .i64 fu,.slice Au xu.length cu],.agg #[.int .i64 fv,.slice Av xv.length cv]]:Value):=gD ((hI.done 8 125 (by simp) rfl (hdep ⟨8,.data⟩ (by simp) rfl)).resolve_left (by decide));refine aF ho rfl (aE (v:=.tuple #[.agg #[.int .i64 fu,.slice Au xu.length cu],.agg #[.int .i64 fv,.slice Av xv.length cv]]) (w':=w') (by simp[execOp,e125,go_sem]) ⟨_,rfl,Or.inr rfl,?_⟩);have hK:=hJ;rw[<-aB (l:=aA) (i:=9) (k:=12) (by decide)]at hK;rw[<-aB (l:=aA) (i:=9) (k:=13) (by decide)]at hK;rw[<-aB (l:=aA) (i:=9) (k:=14) (by decide)]at hK;rw[<-aB (l:=aA) (i:=9) (k:=15) (by decide)]at hK;rw[<-aC (a:=a) (d:=116) (s:=14) (v:=.tuple #[.agg #[.int .i64 fu,.slice Au xu.length cu],.agg #[.int .i64 fv,.slice Av xv.length cv]]) (by decide)]at hK;rw[<-aC (a:=a) (d:=116) (s:=15) (v:=.tuple #[.agg #[.int .i64 fu,.slice Au xu.length cu],.agg #[.int .i64 fv,.slice Av xv.length cv]]) (by decide)]at hK;exact hK
     . have e116:(a.tmps[116]?).getD undef=(.tuple #[.agg #[.int .i64 fu,.slice Au xu.length cu],.agg #[.int .i64 fv,.slice Av xv.length cv]]:Value):=gD ((hI.done 9 116 (by simp) rfl (hdep ⟨9,.data⟩ (by simp) rfl)).resolve_left (by decide));refine aF ho rfl (aE (v:=.agg #[.int .i64 fu,.slice Au xu.length cu]) (w':=w') (by simp[execOp,e116,go_sem]) ⟨_,rfl,Or.inr rfl,?_⟩);have hK:=hJ;rw[<-aB (l:=aA) (i:=10) (k:=12) (by decide)]at hK;rw[<-aB (l:=aA) (i:=10) (k:=13) (by decide)]at hK;rw[<-aB (l:=aA) (i:=10) (k:=14) (by decide)]at hK;rw[<-aB (l:=aA) (i:=10) (k:=15) (by decide)]at hK;rw[<-aC (a:=a) (d:=126) (s:=14) (v:=.agg #[.int .i64 fu,.slice Au xu.length cu]) (by decide)]at hK;rw[<-aC (a:=a) (d:=126) (s:=15) (v:=.agg #[.int .i64 fu,.slice Au xu.length cu]) (by decide)]at hK;exact hK
     . have e116:(a.tmps[116]?).getD undef=(.tuple #[.agg #[.int .i64 fu,.slice Au xu.length cu],.agg #[.int .i64 fv,.slice Av xv.length cv]]:Value):=gD ((hI.done 9 116 (by simp) rfl (hdep ⟨9,.data⟩ (by simp) rfl)).resolve_left (by decide));refine aF ho rfl (aE (v:=.agg #[.int .i64 fv,.slice Av xv.length cv]) (w':=w') (by simp[execOp,e116,go_sem]) ⟨_,rfl,Or.inr rfl,?_⟩);have hK:=hJ;rw[<-aB (l:=aA) (i:=11) (k:=12) (by decide)]at hK;rw[<-aB (l:=aA) (i:=11) (k:=13) (by decide)]at hK;rw[<-aB (l:=aA) (i:=11) (k:=14) (by decide)]at hK;rw[<-aB (l:=aA) (i:=11) (k:=15) (by decide)]at hK;rw[<-aC (a:=a) (d:=127) (s:=14) (v:=.agg #[.int .i64 fv,.slice Av xv.length cv]) (by decide)]at hK;rw[<-aC (a:=a) (d:=127) (s:=15) (v:=.agg #[.int .i64 fv,.slice Av xv.length cv]) (by decide)]at hK;exact hK
     . refine aF ho rfl (aE (v:=.pointer (some ⟨w'.heap.size,0,none⟩)) (w':=w'.alloc (.cells #[.int .i64 0,.slice none 0 0] 87)) (by simp[execOp,go_sem]) ⟨_,rfl,Or.inl (by decide),?_⟩);have hK:=hJ.lay 0 (by simp) hl;show cP w6 87 (.int .i64 0) (.slice none 0 0) [⟨(aA.setIfInBounds 12 true).getD 12 false,(aA.setIfInBounds 12 true).getD 14 false,(a.put (some 14) (.pointer (some ⟨w'.heap.size,0,none⟩))).tmps.getD 14 undef,.int .i64 fu,.slice Au xu.length cu⟩,⟨(aA.setIfInBounds 12 true).getD 13 false,(aA.setIfInBounds 12 true).getD 15 false,(a.put (some 14) (.pointer (some ⟨w'.heap.size,0,none⟩))).tmps.getD 15 undef,.int .i64 fv,.slice Av xv.length cv⟩] _
       rw[aJ (by omega)];rw[aB (l:=aA) (i:=12) (k:=13) (by decide)];rw[aB (l:=aA) (i:=12) (k:=14) (by decide)];rw[aB (l:=aA) (i:=12) (k:=15) (by decide)];rw[aS (a:=a) (s:=14) (by rw[hts];show 14<177;decide)];rw[aC (a:=a) (d:=14) (s:=15) (by decide)];exact hK
     . refine aF ho rfl (aE (v:=.pointer (some ⟨w'.heap.size,0,none⟩)) (w':=w'.alloc (.cells #[.int .i64 0,.slice none 0 0] 87)) (by simp[execOp,go_sem]) ⟨_,rfl,Or.inl (by decide),?_⟩);have hK:=hJ.lay 1 (by simp) hl;show cP w6 87 (.int .i64 0) (.slice none 0 0) [⟨(aA.setIfInBounds 13 true).getD 12 false,(aA.setIfInBounds 13 true).getD 14 false,(a.put (some 15) (.pointer (some ⟨w'.heap.size,0,none⟩))).tmps.getD 14 undef,.int .i64 fu,.slice Au xu.length cu⟩,⟨(aA.setIfInBounds 13 true).getD 13 false,(aA.setIfInBounds 13 true).getD 15 false,(a.put (some 15) (.pointer (some ⟨w'.heap.size,0,none⟩))).tmps.getD 15 undef,.int .i64 fv,.slice Av xv.length cv⟩] _
       rw[aB (l:=aA) (i:=13) (k:=12) (by decide)];rw[aJ (by omega)];rw[aB (l:=aA) (i:=13) (k:=14) (by decide)];rw[aB (l:=aA) (i:=13) (k:=15) (by decide)];rw[aC (a:=a) (d:=15) (s:=14) (by decide)];rw[aS (a:=a) (s:=15) (by rw[hts];show 15<177;decide)];exact hK
     . have l14:=hdep ⟨12,.data⟩ (by simp) rfl;have e126:(a.tmps[126]?).getD undef=(.agg #[.int .i64 fu,.slice Au xu.length cu]:Value):=gD ((hI.done 10 126 (by simp) rfl (hdep ⟨10,.data⟩ (by simp) rfl)).resolve_left (by decide));have hla:aA.getD 12 false=true:=hdep ⟨12,.data⟩ (by simp) rfl;obtain⟨b,hx,hbx,hK⟩:=hJ.fill 0 (by simp) hla hl;obtain⟨m0,m1,m2⟩:=hbx.cells;have ebox:(a.tmps[14]?).getD undef=.pointer (some ⟨b,0,none⟩):=(by simpa using hx);refine aF ho rfl (bF (w':=(w'.setCell ⟨b,0,none⟩ (.int .i64 fu)).setCell ⟨b,1,none⟩ (.slice Au xu.length cu)) (by simp[execOp,ebox,e126,m0,m1,m2,go_sem]) ⟨_,rfl,Or.inr rfl,?_⟩);show cP w6 87 (.int .i64 0) (.slice none 0 0) [⟨(aA.setIfInBounds 14 true).getD 12 false,(aA.setIfInBounds 14 true).getD 14 false,a.tmps.getD 14 undef,.int .i64 fu,.slice Au xu.length cu⟩,⟨(aA.setIfInBounds 14 true).getD 13 false,(aA.setIfInBounds 14 true).getD 15 false,a.tmps.getD 15 undef,.int .i64 fv,.slice Av xv.length cv⟩] _
       rw[aB (l:=aA) (i:=14) (k:=12) (by decide)];rw[aB (l:=aA) (i:=14) (k:=13) (by decide)];rw[aJ (by omega)];rw[aB (l:=aA) (i:=14) (k:=15) (by decide)];rw[hla];exact hK
     have l15:=hdep ⟨13,.data⟩ (by simp) rfl;have e127:(a.tmps[127]?).getD undef=(.agg #[.int .i64 fv,.slice Av xv.length cv]:Value):=gD ((hI.done 11 127 (by simp) rfl (hdep ⟨11,.data⟩ (by simp) rfl)).resolve_left (by decide));have hla:aA.getD 13 false=true:=hdep ⟨13,.data⟩ (by simp) rfl;obtain⟨b,hx,hbx,hK⟩:=hJ.fill 1 (by simp) hla hl;obtain⟨m0,m1,m2⟩:=hbx.cells;have ebox:(a.tmps[15]?).getD undef=.pointer (some ⟨b,0,none⟩):=(by simpa using hx);refine aF ho rfl (bF (w':=(w'.setCell ⟨b,0,none⟩ (.int .i64 fv)).setCell ⟨b,1,none⟩ (.slice Av xv.length cv)) (by simp[execOp,ebox,e127,m0,m1,m2,go_sem]) ⟨_,rfl,Or.inr rfl,?_⟩);show cP w6 87 (.int .i64 0) (.slice none 0 0) [⟨(aA.setIfInBounds 15 true).getD 12 false,(aA.setIfInBounds 15 true).getD 14 false,a.tmps.getD 14 undef,.int .i64 fu,.slice Au xu.length cu⟩,⟨(aA.setIfInBounds 15 true).getD 13 false,(aA.setIfInBounds 15 true).getD 15 false,a.tmps.getD 15 undef,.int .i64 fv,.slice Av xv.length cv⟩] _
     rw[aB (l:=aA) (i:=15) (k:=12) (by decide)];rw[aB (l:=aA) (i:=15) (k:=13) (by decide)];rw[aB (l:=aA) (i:=15) (k:=14) (by decide)];rw[aJ (by omega)];rw[hla];exact hK
    case fin=>
     intro aA x wz hz hall hJ;have hz:aA.size=16:=hz;have hall:∀i,i<16->aA.getD i false=true:=hall;simp only[List.size_toArray,List.length_cons,List.length_nil,Nat.reduceAdd,bI];simp
     rw[hall 12 (by omega),hall 13 (by omega),hall 14 (by omega),hall 15 (by omega)]at hJ;obtain⟨hbz,b1,b2,e1,e2,p1,p2,q1,q2,hne⟩:=hJ.out2;rw[e1,e2];obtain⟨w7,rfl⟩:∃w7:World,w7=wz:=⟨_,rfl⟩;obtain⟨bu,rfl⟩:∃b,b=b1:=⟨_,rfl⟩;obtain⟨bv,rfl⟩:∃b,b=b2:=⟨_,rfl⟩;have hz7:=hbz.size;have hb57:Below w5.heap.size w5 w7:=Hb6.out.trans (hbz.mono hz6);have hlow7:Below w.heap.size w w7:=Hlow5.out.trans (hb57.mono hz50);have hul:=q1.lt;have hvl:=q2.lt;have Bu:=Lh q1;have Bv:=Lh q2;have Ba7:=Lh (Ba.out.low hbz);have Bt7:=Lh (Bt.out.low hbz);have Hra7:=Lh (Hra.out.low hb57 (by omega));have Hrt7:=Lh (Hrt.out.low hb57 (by omega));have Hru7:=Lh (Hru.out.low hb57 (by omega));have Hrv7:=Lh (Hrv.out.low hb57 (by omega));have Hlow7:=Lh hlow7;have Hx16':=Lh (λw' (hb:Below w7.heap.size w7 w')=>Hx16.out w' (hb57.trans (hb.mono (by omega))));have Hx17'':=Lh (λw' (hb:Below w7.heap.size w7 w')=>Hx17.out w' (hb57.trans (hb.mono (by omega))));have Hc7:=Lh (Hc.out.low hlow7 hB);have Hx7:=Lh (Hx5.out.low hb57);have Hxi7:=Lh (Hxi5.out.low hb57);clear hJ hall hz hbz q1 q2 e1 e2 hne hb57 hlow7 Ba Bt Hra Hrt Hru Hrv Hx16 Hx17 Hx17';obtain⟨tA,hta⟩:∃b,bJ fa xa.length=b:=⟨_,rfl⟩;obtain⟨tu,htu⟩:∃b,bJ fu xu.length=b:=⟨_,rfl⟩;obtain⟨tt,htt⟩:∃b,bJ ft xt.length=b:=⟨_,rfl⟩;obtain⟨tv,htv⟩:∃b,bJ fv xv.length=b:=⟨_,rfl⟩;have hres2:=Hres.out;rw[hta,htu,htt,htv]at hres2;have Hr2:=Lh hres2;have Hta:=Lh hta;have Htu:=Lh htu;have Htt:=Lh htt;have Htv:=Lh htv;clear hres2 hta htu htt htv Hres;go_upto_region 18 with fail
     by_cases hij:i=j
     . have hno:bA s c=none:=(by rw[Hr2.out,if_pos (.inl hij)]);have Hno:=Lh hno;have hq:((i:Int)==(j:Int))=true:=(by simp[hij]);clear hno;refine rg 32 (λ_ w'=>Below w7.heap.size w7 w') ?_;intro wd hwd hbd;refine⟨?_,λhS=>?_⟩
       . exact hwd ▸ hbd
       refine tk 0 (.int .i64 (i:Nat)) hS ?_ λhS=>?_
       . intro w' L hn hw;obtain⟨q0,q1,q2,-⟩:=Hx16'.out w' hw;simp[execOp,go_sem,q1]
       refine ta 1 (.int .i64 (j:Nat)) hS λhS=>?_
       refine tk 2 (.bool true) hS ?_ λhS=>?_
       . intros;simp[execOp,go_sem,hq]
       refine ta 3 (.bool true) hS λhS=>?_
       refine sk 4 hS λhS=>?_
       refine sk 5 hS λhS=>?_
       refine sk 6 hS λhS=>?_
       refine sk 7 hS λhS=>?_
       refine sk 8 hS λhS=>?_
       refine ta 9 (.bool true) hS λhS=>?_
       refine ta 10 (.bool true) hS λhS=>?_
       refine sk 11 hS λhS=>?_
       refine sk 12 hS λhS=>?_
       refine sk 13 hS λhS=>?_
       refine sk 14 hS λhS=>?_
       refine sk 15 hS λhS=>?_
       refine ta 16 (.bool true) hS λhS=>?_
       refine ta 17 (.bool true) hS λhS=>?_
       refine sk 18 hS λhS=>?_
       refine sk 19 hS λhS=>?_
       refine ta 20 (.bool true) hS λhS=>?_
       refine ta 21 (.bool true) hS λhS=>?_
       refine sk 22 hS λhS=>?_
       refine sk 23 hS λhS=>?_
       refine ta 24 (.bool true) hS λhS=>?_
       refine ta 25 (.bool true) hS λhS=>?_
       refine sk 26 hS λhS=>?_
       refine sk 27 hS λhS=>?_
       refine sk 28 hS λhS=>?_
       refine sk 29 hS λhS=>?_
       refine sk 30 hS λhS=>?_
       refine ta 31 (.bool true) hS λhS=>?_
       refine dn ?_;have hfin:Below w.heap.size w wd:=Hlow7.out.trans (hS.mono (by omega));have Hfin:=Lh hfin;clear hfin hS hwd hbd;go_wp2_with fail;refine bodyPost_ret (v:=.tuple #[.slice none 0 0,.bool false]) (by simp[results,Try.results49,go_sem]) rfl ?_;rw[Hno.out];refine⟨?_,_,rfl,λc h=>by cases h⟩;exact Hfin.out
     have hq:((i:Int)==(j:Int))=false:=(by simp;omega);cases n0 with
     | true=>
      have hno:bA s c=none:=(by rw[Hr2.out,if_pos (.inr (.inl rfl))]);have Hno:=Lh hno;clear hno;refine rg 32 (λ_ w'=>Below w7.heap.size w7 w') ?_;intro wd hwd hbd;refine⟨?_,λhS=>?_⟩
      . exact hwd ▸ hbd
      refine tk 0 (.int .i64 (i:Nat)) hS ?_ λhS=>?_
      . intro w' L hn hw;obtain⟨q0,q1,q2,-⟩:=Hx16'.out w' hw;simp[execOp,go_sem,q1]
      refine ta 1 (.int .i64 (j:Nat)) hS λhS=>?_
      refine tk 2 (.bool false) hS ?_ λhS=>?_
      . intros;simp[execOp,go_sem,hq]
      refine ta 3 (.bool false) hS λhS=>?_
      refine tk 4 (.slice (some ⟨ab,off,none⟩) c.length cc) hS ?_ λhS=>?_
      . intro w' L hn hw;obtain⟨q0,q1,q2,-⟩:=Hx16'.out w' hw;simp[execOp,go_sem,q0]
      refine tk 5 (.int .i64 (i:Nat)) hS ?_ λhS=>?_
      . intro w' L hn hw;obtain⟨q0,q1,q2,-⟩:=Hx16'.out w' hw;simp[execOp,go_sem,q1]
      refine tk 6 (.pointer (some ⟨ab,off+i*5,none⟩)) hS ?_ λhS=>?_
      . intros;simp[execOp,go_sem,hi0,hii]
      refine ta 7 (.pointer (some ⟨ab,off+i*5,none⟩)) hS λhS=>?_
      refine tk 8 (.bool true) hS ?_ λhS=>?_
      . intro w' L hn hw;obtain⟨q0,q1,q2,-⟩:=Hx16'.out w' hw;simp[execOp,go_sem,q2]
      refine ta 9 (.bool true) hS λhS=>?_
      refine ta 10 (.bool true) hS λhS=>?_
      refine sk 11 hS λhS=>?_
      refine sk 12 hS λhS=>?_
      refine sk 13 hS λhS=>?_
      refine sk 14 hS λhS=>?_
      refine sk 15 hS λhS=>?_
      refine ta 16 (.bool true) hS λhS=>?_
      refine ta 17 (.bool true) hS λhS=>?_
      refine sk 18 hS λhS=>?_
      refine sk 19 hS λhS=>?_
      refine ta 20 (.bool true) hS λhS=>?_
      refine ta 21 (.bool true) hS λhS=>?_
      refine sk 22 hS λhS=>?_
      refine sk 23 hS λhS=>?_
      refine ta 24 (.bool true) hS λhS=>?_
      refine ta 25 (.bool true) hS λhS=>?_
      refine sk 26 hS λhS=>?_
      refine sk 27 hS λhS=>?_
      refine sk 28 hS λhS=>?_
      refine sk 29 hS λhS=>?_
      refine sk 30 hS λhS=>?_
      refine ta 31 (.bool true) hS λhS=>?_
      refine dn ?_;have hfin:Below w.heap.size w wd:=Hlow7.out.trans (hS.mono (by omega));have Hfin:=Lh hfin;clear hfin hS hwd hbd;go_wp2_with fail;refine bodyPost_ret (v:=.tuple #[.slice none 0 0,.bool false]) (by simp[results,Try.results49,go_sem]) rfl ?_;rw[Hno.out];refine⟨?_,_,rfl,λc h=>by cases h⟩;exact Hfin.out
     | false=>
      cases n3 with
      | true=>
       have hno:bA s c=none:=(by rw[Hr2.out,if_pos (.inr (.inr (.inl rfl)))]);have Hno:=Lh hno;clear hno;refine rg 32 (λ_ w'=>Below w7.heap.size w7 w') ?_;intro wd hwd hbd;refine⟨?_,λhS=>?_⟩
       . exact hwd ▸ hbd
       refine tk 0 (.int .i64 (i:Nat)) hS ?_ λhS=>?_
       . intro w' L hn hw;obtain⟨q0,q1,q2,-⟩:=Hx16'.out w' hw;simp[execOp,go_sem,q1]
       refine ta 1 (.int .i64 (j:Nat)) hS λhS=>?_
       refine tk 2 (.bool false) hS ?_ λhS=>?_
       . intros;simp[execOp,go_sem,hq]
       refine ta 3 (.bool false) hS λhS=>?_
       refine tk 4 (.slice (some ⟨ab,off,none⟩) c.length cc) hS ?_ λhS=>?_
       . intro w' L hn hw;obtain⟨q0,q1,q2,-⟩:=Hx16'.out w' hw;simp[execOp,go_sem,q0]
       refine tk 5 (.int .i64 (i:Nat)) hS ?_ λhS=>?_
       . intro w' L hn hw;obtain⟨q0,q1,q2,-⟩:=Hx16'.out w' hw;simp[execOp,go_sem,q1]
       refine tk 6 (.pointer (some ⟨ab,off+i*5,none⟩)) hS ?_ λhS=>?_
       . intros;simp[execOp,go_sem,hi0,hii]
       refine ta 7 (.pointer (some ⟨ab,off+i*5,none⟩)) hS λhS=>?_
       refine tk 8 (.bool false) hS ?_ λhS=>?_
       . intro w' L hn hw;obtain⟨q0,q1,q2,-⟩:=Hx16'.out w' hw;simp[execOp,go_sem,q2]
       refine ta 9 (.bool false) hS λhS=>?_
       refine ta 10 (.bool false) hS λhS=>?_
       refine tk 11 (.slice (some ⟨ab,off,none⟩) c.length cc) hS ?_ λhS=>?_
       . intro w' L hn hw;obtain⟨q0,q1,q2,-⟩:=Hx16'.out w' hw;simp[execOp,go_sem,q0]
       refine ta 12 (.int .i64 (j:Nat)) hS λhS=>?_
       refine tk 13 (.pointer (some ⟨ab,off+j*5,none⟩)) hS ?_ λhS=>?_
       . intros;simp[execOp,go_sem,hj0,hjj]
       refine ta 14 (.pointer (some ⟨ab,off+j*5,none⟩)) hS λhS=>?_
       refine tk 15 (.bool true) hS ?_ λhS=>?_
       . intro w' L hn hw;obtain⟨-,-,q3,-⟩:=Hx17''.out w' hw;simp[execOp,go_sem,q3]
       refine ta 16 (.bool true) hS λhS=>?_
       refine ta 17 (.bool true) hS λhS=>?_
       refine sk 18 hS λhS=>?_
       refine sk 19 hS λhS=>?_
       refine ta 20 (.bool true) hS λhS=>?_
       refine ta 21 (.bool true) hS λhS=>?_
       refine sk 22 hS λhS=>?_
       refine sk 23 hS λhS=>?_
       refine ta 24 (.bool true) hS λhS=>?_
       refine ta 25 (.bool true) hS λhS=>?_
       refine sk 26 hS λhS=>?_
       refine sk 27 hS λhS=>?_
       refine sk 28 hS λhS=>?_
       refine sk 29 hS λhS=>?_
       refine sk 30 hS λhS=>?_
       refine ta 31 (.bool true) hS λhS=>?_
       refine dn ?_;have hfin:Below w.heap.size w wd:=Hlow7.out.trans (hS.mono (by omega));have Hfin:=Lh hfin;clear hfin hS hwd hbd;go_wp2_with fail;refine bodyPost_ret (v:=.tuple #[.slice none 0 0,.bool false]) (by simp[results,Try.results49,go_sem]) rfl ?_;rw[Hno.out];refine⟨?_,_,rfl,λc h=>by cases h⟩;exact Hfin.out
      | false=>
       cases tA with
       | true=>
        have hno:bA s c=none:=(by rw[Hr2.out,if_pos (.inr (.inr (.inr (.inl rfl))))]);have Hno:=Lh hno;clear hno;refine rg 32 (λ_ w'=>Below w7.heap.size w7 w') ?_;intro wd hwd hbd;refine⟨?_,λhS=>?_⟩
        . exact hwd ▸ hbd
        refine tk 0 (.int .i64 (i:Nat)) hS ?_ λhS=>?_
        . intro w' L hn hw;obtain⟨q0,q1,q2,-⟩:=Hx16'.out w' hw;simp[execOp,go_sem,q1]
        refine ta 1 (.int .i64 (j:Nat)) hS λhS=>?_
        refine tk 2 (.bool false) hS ?_ λhS=>?_
        . intros;simp[execOp,go_sem,hq]
        refine ta 3 (.bool false) hS λhS=>?_
        refine tk 4 (.slice (some ⟨ab,off,none⟩) c.length cc) hS ?_ λhS=>?_
        . intro w' L hn hw;obtain⟨q0,q1,q2,-⟩:=Hx16'.out w' hw;simp[execOp,go_sem,q0]
        refine tk 5 (.int .i64 (i:Nat)) hS ?_ λhS=>?_
        . intro w' L hn hw;obtain⟨q0,q1,q2,-⟩:=Hx16'.out w' hw;simp[execOp,go_sem,q1]
        refine tk 6 (.pointer (some ⟨ab,off+i*5,none⟩)) hS ?_ λhS=>?_
        . intros;simp[execOp,go_sem,hi0,hii]
        refine ta 7 (.pointer (some ⟨ab,off+i*5,none⟩)) hS λhS=>?_
        refine tk 8 (.bool false) hS ?_ λhS=>?_
        . intro w' L hn hw;obtain⟨q0,q1,q2,-⟩:=Hx16'.out w' hw;simp[execOp,go_sem,q2]
        refine ta 9 (.bool false) hS λhS=>?_
        refine ta 10 (.bool false) hS λhS=>?_
        refine tk 11 (.slice (some ⟨ab,off,none⟩) c.length cc) hS ?_ λhS=>?_
        . intro w' L hn hw;obtain⟨q0,q1,q2,-⟩:=Hx16'.out w' hw;simp[execOp,go_sem,q0]
        refine ta 12 (.int .i64 (j:Nat)) hS λhS=>?_
        refine tk 13 (.pointer (some ⟨ab,off+j*5,none⟩)) hS ?_ λhS=>?_
        . intros;simp[execOp,go_sem,hj0,hjj]
        refine ta 14 (.pointer (some ⟨ab,off+j*5,none⟩)) hS λhS=>?_
        refine tk 15 (.bool false) hS ?_ λhS=>?_
        . intro w' L hn hw;obtain⟨-,-,q3,-⟩:=Hx17''.out w' hw;simp[execOp,go_sem,q3]
        refine ta 16 (.bool false) hS λhS=>?_
        refine ta 17 (.bool false) hS λhS=>?_
        refine tk 18 (.agg #[.int .i64 fa,.slice Aa xa.length ca]) hS ?_ λhS=>?_
        . intro w' L hn hw;obtain⟨z0,z1,-⟩:=(Ba7.out.low hw).cells;simp[execOp,go_sem,z0,z1]
        refine so 19 ?_;have hbd7:Below w7.heap.size w7 wd:=hwd ▸ hbd;have hc19:=bE fa xa (.slice Aa xa.length ca) B wd (Hra7.out.low hbd7 (by omega));rw[Hta.out]at hc19;refine aG ?_ hc19 ?_
        . simp[execOp,resolve,invoke,go_sem]
        rintro e w8 ⟨rfl,hb8⟩;refine⟨_,rfl,?_⟩;refine gS ?_ λhS=>?_
        . exact hS.trans (hb8.mono hS.size)
        refine ta 20 (.bool true) hS λhS=>?_
        refine ta 21 (.bool true) hS λhS=>?_
        refine sk 22 hS λhS=>?_
        refine sk 23 hS λhS=>?_
        refine ta 24 (.bool true) hS λhS=>?_
        refine ta 25 (.bool true) hS λhS=>?_
        refine sk 26 hS λhS=>?_
        refine sk 27 hS λhS=>?_
        refine sk 28 hS λhS=>?_
        refine sk 29 hS λhS=>?_
        refine sk 30 hS λhS=>?_
        refine ta 31 (.bool true) hS λhS=>?_
        refine dn ?_;have hfin:Below w.heap.size w w8:=Hlow7.out.trans (hS.mono (by omega));have Hfin:=Lh hfin;clear hfin hS hwd hbd;go_wp2_with fail;refine bodyPost_ret (v:=.tuple #[.slice none 0 0,.bool false]) (by simp[results,Try.results49,go_sem]) rfl ?_;rw[Hno.out];refine⟨?_,_,rfl,λc h=>by cases h⟩;exact Hfin.out
       | false=>
        cases tu with
        | true=>
         have hno:bA s c=none:=(by rw[Hr2.out,if_pos (.inr (.inr (.inr (.inr (.inl rfl)))))]);have Hno:=Lh hno;clear hno;refine rg 32 (λ_ w'=>Below w7.heap.size w7 w') ?_;intro wd hwd hbd;refine⟨?_,λhS=>?_⟩
         . exact hwd ▸ hbd
         refine tk 0 (.int .i64 (i:Nat)) hS ?_ λhS=>?_
         . intro w' L hn hw;obtain⟨q0,q1,q2,-⟩:=Hx16'.out w' hw;simp[execOp,go_sem,q1]
         refine ta 1 (.int .i64 (j:Nat)) hS λhS=>?_
         refine tk 2 (.bool false) hS ?_ λhS=>?_
         . intros;simp[execOp,go_sem,hq]
         refine ta 3 (.bool false) hS λhS=>?_
         refine tk 4 (.slice (some ⟨ab,off,none⟩) c.length cc) hS ?_ λhS=>?_
         . intro w' L hn hw;obtain⟨q0,q1,q2,-⟩:=Hx16'.out w' hw;simp[execOp,go_sem,q0]
         refine tk 5 (.int .i64 (i:Nat)) hS ?_ λhS=>?_
         . intro w' L hn hw;obtain⟨q0,q1,q2,-⟩:=Hx16'.out w' hw;simp[execOp,go_sem,q1]
         refine tk 6 (.pointer (some ⟨ab,off+i*5,none⟩)) hS ?_ λhS=>?_
         . intros;simp[execOp,go_sem,hi0,hii]
         refine ta 7 (.pointer (some ⟨ab,off+i*5,none⟩)) hS λhS=>?_
         refine tk 8 (.bool false) hS ?_ λhS=>?_
         . intro w' L hn hw;obtain⟨q0,q1,q2,-⟩:=Hx16'.out w' hw;simp[execOp,go_sem,q2]
         refine ta 9 (.bool false) hS λhS=>?_
         refine ta 10 (.bool false) hS λhS=>?_
         refine tk 11 (.slice (some ⟨ab,off,none⟩) c.length cc) hS ?_ λhS=>?_
         . intro w' L hn hw;obtain⟨q0,q1,q2,-⟩:=Hx16'.out w' hw;simp[execOp,go_sem,q0]
         refine ta 12 (.int .i64 (j:Nat)) hS λhS=>?_
         refine tk 13 (.pointer (some ⟨ab,off+j*5,none⟩)) hS ?_ λhS=>?_
         . intros;simp[execOp,go_sem,hj0,hjj]
         refine ta 14 (.pointer (some ⟨ab,off+j*5,none⟩)) hS λhS=>?_
         refine tk 15 (.bool false) hS ?_ λhS=>?_
         . intro w' L hn hw;obtain⟨-,-,q3,-⟩:=Hx17''.out w' hw;simp[execOp,go_sem,q3]
         refine ta 16 (.bool false) hS λhS=>?_
         refine ta 17 (.bool false) hS λhS=>?_
         refine tk 18 (.agg #[.int .i64 fa,.slice Aa xa.length ca]) hS ?_ λhS=>?_
         . intro w' L hn hw;obtain⟨z0,z1,-⟩:=(Ba7.out.low hw).cells;simp[execOp,go_sem,z0,z1]
         refine so 19 ?_;have hbd7:Below w7.heap.size w7 wd:=hwd ▸ hbd;have hc19:=bE fa xa (.slice Aa xa.length ca) B wd (Hra7.out.low hbd7 (by omega));rw[Hta.out]at hc19;refine aG ?_ hc19 ?_
         . simp[execOp,resolve,invoke,go_sem]
         rintro e w8 ⟨rfl,hb8⟩;refine⟨_,rfl,?_⟩;refine gS ?_ λhS=>?_
         . exact hS.trans (hb8.mono hS.size)
         refine ta 20 (.bool false) hS λhS=>?_
         refine ta 21 (.bool false) hS λhS=>?_
         refine tk 22 (.agg #[.int .i64 fu,.slice Au xu.length cu]) hS ?_ λhS=>?_
         . intro w' L hn hw;obtain⟨z4,z5,-⟩:=(Bu.out.low hw).cells;simp[execOp,go_sem,z4,z5]
         refine so 23 ?_;have hbw8:Below w7.heap.size w7 w8:=hbd7.trans (hb8.mono hbd7.size);have hc23:=bE fu xu (.slice Au xu.length cu) B w8 (Hru7.out.low hbw8 (by omega));rw[Htu.out]at hc23;refine aG ?_ hc23 ?_
         . simp[execOp,resolve,invoke,go_sem]
         rintro e w9 ⟨rfl,hb9⟩;refine⟨_,rfl,?_⟩;refine gS ?_ λhS=>?_
         . exact hS.trans (hb9.mono hS.size)
         refine ta 24 (.bool true) hS λhS=>?_
         refine ta 25 (.bool true) hS λhS=>?_
         refine sk 26 hS λhS=>?_
         refine sk 27 hS λhS=>?_
         refine sk 28 hS λhS=>?_
         refine sk 29 hS λhS=>?_
         refine sk 30 hS λhS=>?_
         refine ta 31 (.bool true) hS λhS=>?_
         refine dn ?_;have hfin:Below w.heap.size w w9:=Hlow7.out.trans (hS.mono (by omega));have Hfin:=Lh hfin;clear hfin hS hwd hbd;go_wp2_with fail;refine bodyPost_ret (v:=.tuple #[.slice none 0 0,.bool false]) (by simp[results,Try.results49,go_sem]) rfl ?_;rw[Hno.out];refine⟨?_,_,rfl,λc h=>by cases h⟩;exact Hfin.out
        | false=>
         by_cases htv:tt=tv
         . subst htv;refine rg 32 (λ_ w'=>Below w7.heap.size w7 w') ?_;intro wd hwd hbd;refine⟨?_,λhS=>?_⟩
           . exact hwd ▸ hbd
           refine tk 0 (.int .i64 (i:Nat)) hS ?_ λhS=>?_
           . intro w' L hn hw;obtain⟨q0,q1,q2,-⟩:=Hx16'.out w' hw;simp[execOp,go_sem,q1]
           refine ta 1 (.int .i64 (j:Nat)) hS λhS=>?_
           refine tk 2 (.bool false) hS ?_ λhS=>?_
           . intros;simp[execOp,go_sem,hq]
           refine ta 3 (.bool false) hS λhS=>?_
           refine tk 4 (.slice (some ⟨ab,off,none⟩) c.length cc) hS ?_ λhS=>?_
           . intro w' L hn hw;obtain⟨q0,q1,q2,-⟩:=Hx16'.out w' hw;simp[execOp,go_sem,q0]
           refine tk 5 (.int .i64 (i:Nat)) hS ?_ λhS=>?_
           . intro w' L hn hw;obtain⟨q0,q1,q2,-⟩:=Hx16'.out w' hw;simp[execOp,go_sem,q1]
           refine tk 6 (.pointer (some ⟨ab,off+i*5,none⟩)) hS ?_ λhS=>?_
           . intros;simp[execOp,go_sem,hi0,hii]
           refine ta 7 (.pointer (some ⟨ab,off+i*5,none⟩)) hS λhS=>?_
           refine tk 8 (.bool false) hS ?_ λhS=>?_
           . intro w' L hn hw;obtain⟨q0,q1,q2,-⟩:=Hx16'.out w' hw;simp[execOp,go_sem,q2]
           refine ta 9 (.bool false) hS λhS=>?_
           refine ta 10 (.bool false) hS λhS=>?_
           refine tk 11 (.slice (some ⟨ab,off,none⟩) c.length cc) hS ?_ λhS=>?_
           . intro w' L hn hw;obtain⟨q0,q1,q2,-⟩:=Hx16'.out w' hw;simp[execOp,go_sem,q0]
           refine ta 12 (.int .i64 (j:Nat)) hS λhS=>?_
           refine tk 13 (.pointer (some ⟨ab,off+j*5,none⟩)) hS ?_ λhS=>?_
           . intros;simp[execOp,go_sem,hj0,hjj]
           refine ta 14 (.pointer (some ⟨ab,off+j*5,none⟩)) hS λhS=>?_
           refine tk 15 (.bool false) hS ?_ λhS=>?_
           . intro w' L hn hw;obtain⟨-,-,q3,-⟩:=Hx17''.out w' hw;simp[execOp,go_sem,q3]
           refine ta 16 (.bool false) hS λhS=>?_
           refine ta 17 (.bool false) hS λhS=>?_
           refine tk 18 (.agg #[.int .i64 fa,.slice Aa xa.length ca]) hS ?_ λhS=>?_
           . intro w' L hn hw;obtain⟨z0,z1,-⟩:=(Ba7.out.low hw).cells;simp[execOp,go_sem,z0,z1]
           refine so 19 ?_;have hbd7:Below w7.heap.size w7 wd:=hwd ▸ hbd;have hc19:=bE fa xa (.slice Aa xa.length ca) B wd (Hra7.out.low hbd7 (by omega));rw[Hta.out]at hc19;refine aG ?_ hc19 ?_
           . simp[execOp,resolve,invoke,go_sem]
           rintro e w8 ⟨rfl,hb8⟩;refine⟨_,rfl,?_⟩;refine gS ?_ λhS=>?_
           . exact hS.trans (hb8.mono hS.size)
           refine ta 20 (.bool false) hS λhS=>?_
           refine ta 21 (.bool false) hS λhS=>?_
           refine tk 22 (.agg #[.int .i64 fu,.slice Au xu.length cu]) hS ?_ λhS=>?_
           . intro w' L hn hw;obtain⟨z4,z5,-⟩:=(Bu.out.low hw).cells;simp[execOp,go_sem,z4,z5]
           refine so 23 ?_;have hbw8:Below w7.heap.size w7 w8:=hbd7.trans (hb8.mono hbd7.size);have hc23:=bE fu xu (.slice Au xu.length cu) B w8 (Hru7.out.low hbw8 (by omega));rw[Htu.out]at hc23;refine aG ?_ hc23 ?_
           . simp[execOp,resolve,invoke,go_sem]
           rintro e w9 ⟨rfl,hb9⟩;refine⟨_,rfl,?_⟩;refine gS ?_ λhS=>?_
           . exact hS.trans (hb9.mono hS.size)
           refine ta 24 (.bool false) hS λhS=>?_
           refine ta 25 (.bool false) hS λhS=>?_
           refine tk 26 (.agg #[.int .i64 ft,.slice At xt.length ct]) hS ?_ λhS=>?_
           . intro w' L hn hw;obtain⟨z2,z3,-⟩:=(Bt7.out.low hw).cells;simp[execOp,go_sem,z2,z3]
           refine tk 28 (.agg #[.int .i64 fv,.slice Av xv.length cv]) hS ?_ λhS=>?_
           . intro w' L hn hw;obtain⟨z6,z7,-⟩:=(Bv.out.low hw).cells;simp[execOp,go_sem,z6,z7]
           refine so 27 ?_;have hbw9:Below w7.heap.size w7 w9:=hbw8.trans (hb9.mono hbw8.size);have hc27:=bE ft xt (.slice At xt.length ct) B w9 (Hrt7.out.low hbw9 (by omega));rw[Htt.out]at hc27;refine aG ?_ hc27 ?_
           . simp[execOp,resolve,invoke,go_sem]
           rintro e w10 ⟨rfl,hb10⟩;refine⟨_,rfl,?_⟩;refine gS ?_ λhS=>?_
           . exact hS.trans (hb10.mono hS.size)
           refine so 29 ?_;have hbw10:Below w7.heap.size w7 w10:=hbw9.trans (hb10.mono hbw9.size);have hc29:=bE fv xv (.slice Av xv.length cv) B w10 (Hrv7.out.low hbw10 (by omega));rw[Htv.out]at hc29;refine aG ?_ hc29 ?_
           . simp[execOp,resolve,invoke,go_sem]
           rintro e w11 ⟨rfl,hb11⟩;refine⟨_,rfl,?_⟩;refine gS ?_ λhS=>?_
           . exact hS.trans (hb11.mono hS.size)
           refine tk 30 (.bool false) hS ?_ λhS=>?_
           . intros;simp[execOp,go_sem,hq]
           refine ta 31 (.bool false) hS λhS=>?_
           refine dn ?_;have hr3:∀u',u=u'->bA s c=(match u' with | some σ=>some (gU σ (c.eraseIdx i++[(⟨true,.mk ft xt,.mk fv xv⟩:Lt)])) | none=>none):=λu' hu'=>by
            subst hu';rw[Hr2.out,if_neg (by simp[hij])]
           have Hr3:=Lh (hr3 u rfl);have hza:∀(x:Lt) (r:Bool),x∈c->aK (aV x r)<=300:=λx r hx=>by
            unfold aV;split
            . exact(hsz x hx).2
            exact(hsz x hx).1
           have z1a:=hza _ r0 hmi;have z1t:=hza _ (!r0) hmi;have z1u:=hza _ r1 hmj;have z1v:=hza _ (!r1) hmj;rw[hsa]at z1a;rw[hst]at z1t;rw[hsu]at z1u;rw[hsv]at z1v;simp only[aK]at z1a z1t z1u z1v;have hz11:=hS.size;obtain⟨m0,m1,-⟩:=(Ba7.out.low hS).cells;obtain⟨m2,m3,-⟩:=(Bu.out.low hS).cells;have hum11:=oL fa fu xa xu _ _ B w11 (Hra7.out.low hS (by omega)) (Hru7.out.low hS (by omega)) (by omega) (by omega) (by omega);rw[Hu.out]at hum11;have Hum11:=Lh hum11;have Hlow11:=Lh hS;clear hr3 hza hum11 hS hwd hbd hbd7 hbw8 hbw9 hbw10 hb8 hb9 hb10 hb11 hc19 hc23 hc27 hc29;go_upto_region 21 with(
            go_at_call 68
            refine Hum11.out.mono ?_;rintro e w12 ⟨mv,rfl,hum12,hb12⟩;have Hum12:=Lh hum12;have Hb12:=Lh hb12;clear hum12 hb12)
           have hz12:=Hb12.out.size;have hb712:Below w7.heap.size w7 w12:=Hlow11.out.trans (Hb12.out.mono hz11);have Hb712:=Lh hb712;clear hb712 m0 m1 m2 m3;refine rg 13 (λ_ w'=>Below w12.heap.size w12 w') ?_;intro wd hwd hbd;refine⟨?_,λhS=>?_⟩
           . exact hwd ▸ hbd
           refine ta 0 (mv) hS λhS=>?_
           refine tk 1 (.slice (some ⟨ab,off,none⟩) c.length cc) hS ?_ λhS=>?_
           . intro w' L hn hw;have hw7:Below w7.heap.size w7 w':=Hb712.out.trans (hw.mono (by omega));obtain⟨q0,q1,-⟩:=Hx16'.out w' hw7;simp[execOp,go_sem,q0]
           refine tk 2 (.int .i64 (i:Nat)) hS ?_ λhS=>?_
           . intro w' L hn hw;have hw7:Below w7.heap.size w7 w':=Hb712.out.trans (hw.mono (by omega));obtain⟨q0,q1,-⟩:=Hx16'.out w' hw7;simp[execOp,go_sem,q1]
           refine tk 4 (.agg #[.int .i64 ft,.slice At xt.length ct]) hS ?_ λhS=>?_
           . intro w' L hn hw;have hw7:Below w7.heap.size w7 w':=Hb712.out.trans (hw.mono (by omega));obtain⟨z2,z3,-⟩:=(Bt7.out.low hw7).cells;simp[execOp,go_sem,z2,z3]
           refine tk 5 (.agg #[.int .i64 fv,.slice Av xv.length cv]) hS ?_ λhS=>?_
           . intro w' L hn hw;have hw7:Below w7.heap.size w7 w':=Hb712.out.trans (hw.mono (by omega));obtain⟨z6,z7,-⟩:=(Bv.out.low hw7).cells;simp[execOp,go_sem,z6,z7]
           refine ta 6 (.agg #[.bool true,.int .i64 ft,.slice At xt.length ct,.int .i64 fv,.slice Av xv.length cv]) hS λhS=>?_
           refine ta 10 (.bool u.isSome) hS λhS=>?_
           refine zN (rs:=[3,7]) (by kernel_rfl) (by simp) ?_;intro q hq;rcases List.mem_cons.1 hq with rfl | hq
           . refine aA9 (S:=λ_ w'=>Below w12.heap.size w12 w') 3 (o:={dst:=some 169,op:=Op.call {callee:=Callee.value (Operand.func 64),args:= #[Operand.tmp 167,Operand.tmp 168],argTypes:= #[38,3]},type:=38,pos:= "check.go:154",after:= #[{on:=1,ground:=Ground.data},{on:=2,ground:=Ground.data}],guard:=none}) (aA:= #[true,true,true,false,true,true,true,false,false,false,true,false,false]) (listed':= #[true,true,true,true,true,true,true,false,false,false,true,false,false]) rfl rfl (by rfl) ?_;have hwdd:wd.heap.size=w12.heap.size:=(by rw[hwd]);have hbd12:Below w12.heap.size w12 wd:=hwd ▸ hbd;have hlowd:Below w.heap.size w wd:=Hlow7.out.trans ((Hb712.out.trans (hbd12.mono (by omega))).mono (by omega));have hc3:=cT c i _ (λb=>b<B) wd ((Hc.out.low hlowd hB).rdP (by omega)) hi0 (by omega);obtain⟨base,hbase⟩:∃b,wd.heap.size=b:=⟨_,rfl⟩;refine aG ?_ hc3 ?_
             . simp[execOp,resolve,invoke,go_sem]
             rintro e w13 ⟨v169,rfl,hown13,hb13⟩;refine⟨_,rfl,?_⟩;refine gS ?_ λhS=>?_
             . exact hS.trans (hb13.mono hS.size)
             refine so 7 ?_;refine aE (v:=.slice (some ⟨w13.heap.size,0,none⟩) 1 1) (w':=w13.alloc (.cells #[.bool true,.int .i64 ft,.slice At xt.length ct,.int .i64 fv,.slice Av xv.length cv] 53)) (by simp[execOp,go_sem]) ?_;have hg14:=heap_alloc_new w13 (.cells #[.bool true,.int .i64 ft,.slice At xt.length ct,.int .i64 fv,.slice Av xv.length cv] 53);have hb14:=aD w13 (.cells #[.bool true,.int .i64 ft,.slice At xt.length ct,.int .i64 fv,.slice Av xv.length cv] 53);have hown14:=hown13.low hb14;rw[hbase]at hown14;have hz13:=hb13.size;have hz14:=hb14.size;generalize hgen:w13.heap.size=g173 at hg14 ⊢;generalize w13.alloc (.cells #[.bool true,.int .i64 ft,.slice At xt.length ct,.int .i64 fv,.slice Av xv.length cv] 53)=w14 at hg14 hb14 hown14 hz14 ⊢;have hbase2:w12.heap.size<=base/\base<=w14.heap.size:=⟨by omega,by omega⟩;have hgown:v169.ownBlock≠some g173:=λe=>by have:=(hown13.lt _ e).2;omega
             refine gS ?_ λhS=>?_
             . exact hS.trans (hb14.mono hS.size)
             refine sl 8 ?_;have hbw14:Below w7.heap.size w7 w14:=Hb712.out.trans (hS.mono (by omega));have hlen:((c.eraseIdx i).map aQ).length<=1000:=(by rw[List.length_map];have:=List.length_eraseIdx_le c i;omega);refine cK w14 rfl (.tmp 169) (.tmp 173) _ rfl nW (M:=λb=>b<B) (base:=base) (v:=v169) (trs:=(c.eraseIdx i).map aQ) (by simp[go_sem]) hown14 (g:=g173) (by simp[go_sem]) hg14 rfl (by intro y hy;simp at hy;rcases hy with rfl | rfl | rfl | rfl | rfl <;> rfl) (by omega) (by unfold maxLen;omega) (by omega) (aQ ⟨true,.mk ft xt,.mk fv xv⟩) rfl ?_ ?_
             . intro q h h';have hq5:q<5:=h';rcases(by omega:q=0\/q=1\/q=2\/q=3\/q=4)with rfl | rfl | rfl | rfl | rfl
               . exact .leaf _
               . exact .leaf _
               . exact((Hrt7.out.low hbw14 (by omega)).rdP (by omega)).more λb hb _=>⟨.inl hb,λe=>by have:=(hown14.lt _ e).1;omega⟩
               . exact .leaf _
               exact((Hrv7.out.low hbw14 (by omega)).rdP (by omega)).more λb hb _=>⟨.inl hb,λe=>by have:=(hown14.lt _ e).1;omega⟩
             intro v174 w15 hown15 hup15 hat15;refine gL ?_ λhS=>?_
             . exact hS.trans (hup15.toLow (by omega) (λk e=>by have:=(hown14.lt k e).1;omega))
             refine so 9 ?_;have hz15:=hup15.size;have hrd15:=(hown15.rd (by simp only[List.length_append,List.length_cons,List.length_nil];omega)).rd';have heq:(c.eraseIdx i).map aQ++[aQ ⟨true,.mk ft xt,.mk fv xv⟩]=(c.eraseIdx i++[(⟨true,.mk ft xt,.mk fv xv⟩:Lt)]).map aQ:=(by rw[List.map_append];rfl);rw[heq]at hrd15;have hze:=fU c i;have hzs:aR (c.eraseIdx i++[(⟨true,.mk ft xt,.mk fv xv⟩:Lt)])<=1000000000:=by
              rw[jH];simp only[aR,List.map_cons,List.map_nil,List.sum_cons,List.sum_nil,dN,aK]at hze ⊢;unfold aR at hzc;omega
             have hc9:=gN _ mv _ (c.eraseIdx i++[(⟨true,.mk ft xt,.mk fv xv⟩:Lt)]) v174 w15.heap.size w15 hrd15 (Nat.le_refl _) hzs (Hum12.out.low hS);refine aG ?_ hc9 ?_
             . simp[execOp,resolve,invoke,go_sem]
             rintro e w16 ⟨v175,rfl,hown16,hb16⟩;refine⟨_,rfl,?_⟩;refine gS ?_ λhS=>?_
             . exact hS.trans (hb16.mono hS.size)
             refine ta 11 (v175) hS λhS=>?_
             refine ta 12 (.bool u.isSome) hS λhS=>?_
             refine dn ?_;have hfin:Below w.heap.size w w16:=Hlow7.out.trans ((Hb712.out.trans (hS.mono (by omega))).mono (by omega));have Hfin:=Lh hfin;have Hown16:=Lh hown16;clear hS hfin hown16 hown15 hown14 hrd15 hc9 hup15 hb14 hg14;go_wp2_with fail;refine bodyPost_ret (v:=.tuple #[v175,.bool u.isSome]) (by simp[results,Try.results49,go_sem]) rfl ?_;rw[Hr3.out];cases u with
             | none=>exact⟨Hfin.out,v175,rfl,λc h=>by cases h⟩
             | some σ=>
              refine⟨Hfin.out,v175,rfl,λc' h=>?_⟩;obtain rfl:=Option.some.inj h;exact(Hown16.out.rd (by unfold gU;rw[List.length_map,List.length_map,List.length_append,List.length_singleton];have:=List.length_eraseIdx_le c i;omega)).rd'
           obtain rfl:=List.mem_singleton.1 hq;refine aA9 (S:=λ_ w'=>Below w12.heap.size w12 w') 7 (o:={dst:=some 173,op:=Op.buildSlice 38 1 #[(0,Operand.tmp 172)],type:=38,pos:= "check.go:154",after:= #[{on:=6,ground:=Ground.data}],guard:=none}) (aA:= #[true,true,true,false,true,true,true,false,false,false,true,false,false]) (listed':= #[true,true,true,false,true,true,true,true,false,false,true,false,false]) rfl rfl (by rfl) ?_;have hwdd:wd.heap.size=w12.heap.size:=(by rw[hwd]);have hbd12:Below w12.heap.size w12 wd:=hwd ▸ hbd;refine aE (v:=.slice (some ⟨wd.heap.size,0,none⟩) 1 1) (w':=wd.alloc (.cells #[.bool true,.int .i64 ft,.slice At xt.length ct,.int .i64 fv,.slice Av xv.length cv] 53)) (by simp[execOp,go_sem]) ?_;have hg13:=heap_alloc_new wd (.cells #[.bool true,.int .i64 ft,.slice At xt.length ct,.int .i64 fv,.slice Av xv.length cv] 53);have hb13:=aD wd (.cells #[.bool true,.int .i64 ft,.slice At xt.length ct,.int .i64 fv,.slice Av xv.length cv] 53);have hz13:=hb13.size;have hg13l:=eA hg13;generalize hgen:wd.heap.size=g173 at hg13 hg13l ⊢;generalize wd.alloc (.cells #[.bool true,.int .i64 ft,.slice At xt.length ct,.int .i64 fv,.slice Av xv.length cv] 53)=w13 at hg13 hb13 hz13 hg13l ⊢;refine gS ?_ λhS=>?_
           . exact hS.trans (hb13.mono hS.size)
           refine so 3 ?_;have hlowd:Below w.heap.size w w13:=Hlow7.out.trans (((Hb712.out.trans (hbd12.mono (by omega))).trans (hb13.mono (by omega))).mono (by omega));have hc3:=cT c i _ (λb=>b<B) w13 ((Hc.out.low hlowd hB).rdP (by omega)) hi0 (by omega);obtain⟨base,hbase⟩:∃b,w13.heap.size=b:=⟨_,rfl⟩;refine aG ?_ hc3 ?_
           . simp[execOp,resolve,invoke,go_sem]
           rintro e w14 ⟨v169,rfl,hown14,hb14⟩;refine⟨_,rfl,?_⟩;rw[hbase]at hown14;have hg14:=(hb14.block g173 hg13l).trans hg13;have hz14:=hb14.size;have hbase2:w12.heap.size<=base/\base<=w14.heap.size:=⟨by omega,by omega⟩;have hgown:v169.ownBlock≠some g173:=λe=>by have:=(hown14.lt _ e).1;omega
           refine gS ?_ λhS=>?_
           . exact hS.trans (hb14.mono hS.size)
           refine sl 8 ?_;have hbw14:Below w7.heap.size w7 w14:=Hb712.out.trans (hS.mono (by omega));have hlen:((c.eraseIdx i).map aQ).length<=1000:=(by rw[List.length_map];have:=List.length_eraseIdx_le c i;omega);refine cK w14 rfl (.tmp 169) (.tmp 173) _ rfl nW (M:=λb=>b<B) (base:=base) (v:=v169) (trs:=(c.eraseIdx i).map aQ) (by simp[go_sem]) hown14 (g:=g173) (by simp[go_sem]) hg14 rfl (by intro y hy;simp at hy;rcases hy with rfl | rfl | rfl | rfl | rfl <;> rfl) (by omega) (by unfold maxLen;omega) (by omega) (aQ ⟨true,.mk ft xt,.mk fv xv⟩) rfl ?_ ?_
           . intro q h h';have hq5:q<5:=h';rcases(by omega:q=0\/q=1\/q=2\/q=3\/q=4)with rfl | rfl | rfl | rfl | rfl
             . exact .leaf _
             . exact .leaf _
             . exact((Hrt7.out.low hbw14 (by omega)).rdP (by omega)).more λb hb _=>⟨.inl hb,λe=>by have:=(hown14.lt _ e).1;omega⟩
             . exact .leaf _
             exact((Hrv7.out.low hbw14 (by omega)).rdP (by omega)).more λb hb _=>⟨.inl hb,λe=>by have:=(hown14.lt _ e).1;omega⟩
           intro v174 w15 hown15 hup15 hat15;refine gL ?_ λhS=>?_
           . exact hS.trans (hup15.toLow (by omega) (λk e=>by have:=(hown14.lt k e).1;omega))
           refine so 9 ?_;have hz15:=hup15.size;have hrd15:=(hown15.rd (by simp only[List.length_append,List.length_cons,List.length_nil];omega)).rd';have heq:(c.eraseIdx i).map aQ++[aQ ⟨true,.mk ft xt,.mk fv xv⟩]=(c.eraseIdx i++[(⟨true,.mk ft xt,.mk fv xv⟩:Lt)]).map aQ:=(by rw[List.map_append];rfl);rw[heq]at hrd15;have hze:=fU c i;have hzs:aR (c.eraseIdx i++[(⟨true,.mk ft xt,.mk fv xv⟩:Lt)])<=1000000000:=by
            rw[jH];simp only[aR,List.map_cons,List.map_nil,List.sum_cons,List.sum_nil,dN,aK]at hze ⊢;unfold aR at hzc;omega
           have hc9:=gN _ mv _ (c.eraseIdx i++[(⟨true,.mk ft xt,.mk fv xv⟩:Lt)]) v174 w15.heap.size w15 hrd15 (Nat.le_refl _) hzs (Hum12.out.low hS);refine aG ?_ hc9 ?_
           . simp[execOp,resolve,invoke,go_sem]
           rintro e w16 ⟨v175,rfl,hown16,hb16⟩;refine⟨_,rfl,?_⟩;refine gS ?_ λhS=>?_
           . exact hS.trans (hb16.mono hS.size)
           refine ta 11 (v175) hS λhS=>?_
           refine ta 12 (.bool u.isSome) hS λhS=>?_
           refine dn ?_;have hfin:Below w.heap.size w w16:=Hlow7.out.trans ((Hb712.out.trans (hS.mono (by omega))).mono (by omega));have Hfin:=Lh hfin;have Hown16:=Lh hown16;clear hS hfin hown16 hown15 hown14 hrd15 hc9 hup15 hb14 hg14;go_wp2_with fail;refine bodyPost_ret (v:=.tuple #[v175,.bool u.isSome]) (by simp[results,Try.results49,go_sem]) rfl ?_;rw[Hr3.out];cases u with
           | none=>exact⟨Hfin.out,v175,rfl,λc h=>by cases h⟩
           | some σ=>
            refine⟨Hfin.out,v175,rfl,λc' h=>?_⟩;obtain rfl:=Option.some.inj h;exact(Hown16.out.rd (by unfold gU;rw[List.length_map,List.length_map,List.length_append,List.length_singleton];have:=List.length_eraseIdx_le c i;omega)).rd'
         have hno:bA s c=none:=(by rw[Hr2.out,if_pos (.inr (.inr (.inr (.inr (.inr htv)))))]);have Hno:=Lh hno;clear hno;refine rg 32 (λ_ w'=>Below w7.heap.size w7 w') ?_;intro wd hwd hbd;refine⟨?_,λhS=>?_⟩
         . exact hwd ▸ hbd
         refine tk 0 (.int .i64 (i:Nat)) hS ?_ λhS=>?_
         . intro w' L hn hw;obtain⟨q0,q1,q2,-⟩:=Hx16'.out w' hw;simp[execOp,go_sem,q1]
         refine ta 1 (.int .i64 (j:Nat)) hS λhS=>?_
         refine tk 2 (.bool false) hS ?_ λhS=>?_
         . intros;simp[execOp,go_sem,hq]
         refine ta 3 (.bool false) hS λhS=>?_
         refine tk 4 (.slice (some ⟨ab,off,none⟩) c.length cc) hS ?_ λhS=>?_
         . intro w' L hn hw;obtain⟨q0,q1,q2,-⟩:=Hx16'.out w' hw;simp[execOp,go_sem,q0]
         refine tk 5 (.int .i64 (i:Nat)) hS ?_ λhS=>?_
         . intro w' L hn hw;obtain⟨q0,q1,q2,-⟩:=Hx16'.out w' hw;simp[execOp,go_sem,q1]
         refine tk 6 (.pointer (some ⟨ab,off+i*5,none⟩)) hS ?_ λhS=>?_
         . intros;simp[execOp,go_sem,hi0,hii]
         refine ta 7 (.pointer (some ⟨ab,off+i*5,none⟩)) hS λhS=>?_
         refine tk 8 (.bool false) hS ?_ λhS=>?_
         . intro w' L hn hw;obtain⟨q0,q1,q2,-⟩:=Hx16'.out w' hw;simp[execOp,go_sem,q2]
         refine ta 9 (.bool false) hS λhS=>?_
         refine ta 10 (.bool false) hS λhS=>?_
         refine tk 11 (.slice (some ⟨ab,off,none⟩) c.length cc) hS ?_ λhS=>?_
         . intro w' L hn hw;obtain⟨q0,q1,q2,-⟩:=Hx16'.out w' hw;simp[execOp,go_sem,q0]
         refine ta 12 (.int .i64 (j:Nat)) hS λhS=>?_
         refine tk 13 (.pointer (some ⟨ab,off+j*5,none⟩)) hS ?_ λhS=>?_
         . intros;simp[execOp,go_sem,hj0,hjj]
         refine ta 14 (.pointer (some ⟨ab,off+j*5,none⟩)) hS λhS=>?_
         refine tk 15 (.bool false) hS ?_ λhS=>?_
         . intro w' L hn hw;obtain⟨-,-,q3,-⟩:=Hx17''.out w' hw;simp[execOp,go_sem,q3]
         refine ta 16 (.bool false) hS λhS=>?_
         refine ta 17 (.bool false) hS λhS=>?_
         refine tk 18 (.agg #[.int .i64 fa,.slice Aa xa.length ca]) hS ?_ λhS=>?_
         . intro w' L hn hw;obtain⟨z0,z1,-⟩:=(Ba7.out.low hw).cells;simp[execOp,go_sem,z0,z1]
         refine so 19 ?_;have hbd7:Below w7.heap.size w7 wd:=hwd ▸ hbd;have hc19:=bE fa xa (.slice Aa xa.length ca) B wd (Hra7.out.low hbd7 (by omega));rw[Hta.out]at hc19;refine aG ?_ hc19 ?_
         . simp[execOp,resolve,invoke,go_sem]
         rintro e w8 ⟨rfl,hb8⟩;refine⟨_,rfl,?_⟩;refine gS ?_ λhS=>?_
         . exact hS.trans (hb8.mono hS.size)
         refine ta 20 (.bool false) hS λhS=>?_
         refine ta 21 (.bool false) hS λhS=>?_
         refine tk 22 (.agg #[.int .i64 fu,.slice Au xu.length cu]) hS ?_ λhS=>?_
         . intro w' L hn hw;obtain⟨z4,z5,-⟩:=(Bu.out.low hw).cells;simp[execOp,go_sem,z4,z5]
         refine so 23 ?_;have hbw8:Below w7.heap.size w7 w8:=hbd7.trans (hb8.mono hbd7.size);have hc23:=bE fu xu (.slice Au xu.length cu) B w8 (Hru7.out.low hbw8 (by omega));rw[Htu.out]at hc23;refine aG ?_ hc23 ?_
         . simp[execOp,resolve,invoke,go_sem]
         rintro e w9 ⟨rfl,hb9⟩;refine⟨_,rfl,?_⟩;refine gS ?_ λhS=>?_
         . exact hS.trans (hb9.mono hS.size)
         refine ta 24 (.bool false) hS λhS=>?_
         refine ta 25 (.bool false) hS λhS=>?_
         refine tk 26 (.agg #[.int .i64 ft,.slice At xt.length ct]) hS ?_ λhS=>?_
         . intro w' L hn hw;obtain⟨z2,z3,-⟩:=(Bt7.out.low hw).cells;simp[execOp,go_sem,z2,z3]
         refine tk 28 (.agg #[.int .i64 fv,.slice Av xv.length cv]) hS ?_ λhS=>?_
         . intro w' L hn hw;obtain⟨z6,z7,-⟩:=(Bv.out.low hw).cells;simp[execOp,go_sem,z6,z7]
         refine so 27 ?_;have hbw9:Below w7.heap.size w7 w9:=hbw8.trans (hb9.mono hbw8.size);have hc27:=bE ft xt (.slice At xt.length ct) B w9 (Hrt7.out.low hbw9 (by omega));rw[Htt.out]at hc27;refine aG ?_ hc27 ?_
         . simp[execOp,resolve,invoke,go_sem]
         rintro e w10 ⟨rfl,hb10⟩;refine⟨_,rfl,?_⟩;refine gS ?_ λhS=>?_
         . exact hS.trans (hb10.mono hS.size)
         refine so 29 ?_;have hbw10:Below w7.heap.size w7 w10:=hbw9.trans (hb10.mono hbw9.size);have hc29:=bE fv xv (.slice Av xv.length cv) B w10 (Hrv7.out.low hbw10 (by omega));rw[Htv.out]at hc29;refine aG ?_ hc29 ?_
         . simp[execOp,resolve,invoke,go_sem]
         rintro e w11 ⟨rfl,hb11⟩;refine⟨_,rfl,?_⟩;refine gS ?_ λhS=>?_
         . exact hS.trans (hb11.mono hS.size)
         refine tk 30 (.bool true) hS ?_ λhS=>?_
         . intros;simp[execOp,go_sem,htv]
         refine ta 31 (.bool true) hS λhS=>?_
         refine dn ?_;have hfin:Below w.heap.size w w11:=Hlow7.out.trans (hS.mono (by omega));have Hfin:=Lh hfin;clear hfin hS hwd hbd;go_wp2_with fail;refine bodyPost_ret (v:=.tuple #[.slice none 0 0,.bool false]) (by simp[results,Try.results49,go_sem]) rfl ?_;rw[Hno.out];refine⟨?_,_,rfl,λc h=>by cases h⟩;exact Hfin.out
def trT (t:Tm):Bool:=bJ t.fn t.args.length
def iV (s t u v:Tm)(n:Nat):Bool:= !trT s&& !trT u&&(trT t==(trT v&&decide (n=0)))
theorem aB4 (fs ft fu fv:Int)(xs xt xu xv:List Tm)(vs vt vu vv vp:Value)(p:List Int)(B:Nat)(w:World)(h1:Rd w B (.sl 2 (aH xs)) vs)(h2:Rd w B (.sl 2 (aH xt)) vt)(h3:Rd w B (.sl 2 (aH xu)) vu)(h4:Rd w B (.sl 2 (aH xv)) vv)(hp:Rd w B (bM p) vp)(hB:B<=w.heap.size):
 Calls Try.prog 74 #[.agg #[.int .i64 fs,vs],.agg #[.int .i64 ft,vt],.agg #[.int .i64 fu,vu],.agg #[.int .i64 fv,vv],vp] w (aP (iV (.mk fs xs) (.mk ft xt) (.mk fu xu) (.mk fv xv) p.length) w):=by
 obtain⟨As,cs,rfl,-⟩:=h1.tm_form;obtain⟨At,ct,rfl,-⟩:=h2.tm_form;obtain⟨Au,cu,rfl,-⟩:=h3.tm_form;obtain⟨Av,cv,rfl,-⟩:=h4.tm_form;obtain⟨Ap,cp,rfl,-⟩:=Rd.row_form hp;obtain⟨b1,ht1⟩:∃b,bJ fs xs.length=b:=⟨_,rfl⟩;obtain⟨b3,ht2⟩:∃b,bJ ft xt.length=b:=⟨_,rfl⟩;obtain⟨b2,ht3⟩:∃b,bJ fu xu.length=b:=⟨_,rfl⟩;obtain⟨b4,ht4⟩:∃b,bJ fv xv.length=b:=⟨_,rfl⟩;obtain⟨b5,ht5⟩:∃b,decide (p.length=0)=b:=⟨_,rfl⟩;have hres:iV (.mk fs xs) (.mk ft xt) (.mk fu xu) (.mk fv xv) p.length=(!b1&& !b2&&(b3==(b4&&b5))):=by
  unfold iV trT;simp only[Tm.fn,Tm.args,ht1,ht2,ht3,ht4,ht5]
 have hq5:(((p.length:Nat):Int)==0)=b5:=by
  rw[<-ht5];by_cases h:p.length=0
  . simp[h]
  rw[decide_eq_false h,beq_eq_false_iff_ne];omega
 have H1:=Lh (h1.low ((nQ w (.cells #[.int .i64 fs,.slice As xs.length cs] 87) (.cells #[.int .i64 ft,.slice At xt.length ct] 87) (.cells #[.int .i64 fu,.slice Au xu.length cu] 87) (.cells #[.int .i64 fv,.slice Av xv.length cv] 87)).2.2.2.2.1) hB);have H2:=Lh (h2.low ((nQ w (.cells #[.int .i64 fs,.slice As xs.length cs] 87) (.cells #[.int .i64 ft,.slice At xt.length ct] 87) (.cells #[.int .i64 fu,.slice Au xu.length cu] 87) (.cells #[.int .i64 fv,.slice Av xv.length cv] 87)).2.2.2.2.1) hB);have H3:=Lh (h3.low ((nQ w (.cells #[.int .i64 fs,.slice As xs.length cs] 87) (.cells #[.int .i64 ft,.slice At xt.length ct] 87) (.cells #[.int .i64 fu,.slice Au xu.length cu] 87) (.cells #[.int .i64 fv,.slice Av xv.length cv] 87)).2.2.2.2.1) hB);have H4:=Lh (h4.low ((nQ w (.cells #[.int .i64 fs,.slice As xs.length cs] 87) (.cells #[.int .i64 ft,.slice At xt.length ct] 87) (.cells #[.int .i64 fu,.slice Au xu.length cu] 87) (.cells #[.int .i64 fv,.slice Av xv.length cv] 87)).2.2.2.2.1) hB);obtain⟨x1,x2,x3,x4,hB4,hz4⟩:=nQ w (.cells #[.int .i64 fs,.slice As xs.length cs] 87) (.cells #[.int .i64 ft,.slice At xt.length ct] 87) (.cells #[.int .i64 fu,.slice Au xu.length cu] 87) (.cells #[.int .i64 fv,.slice Av xv.length cv] 87);have Hres:=Lh hres;have T1:=Lh ht1;have T2:=Lh ht2;have T3:=Lh ht3;have T4:=Lh ht4;clear hres ht1 ht2 ht3 ht4 ht5 h1 h2 h3 h4 hp;go_enter Try.func74,Try.ntmps74;go_upto_region 1 with fail
 simp only[Nat.add_assoc,Nat.reduceAdd];have x1:aL w.heap.size 87 (.int .i64 fs) (.slice As xs.length cs) _:=x1;have x2:aL (w.heap.size+1) 87 (.int .i64 ft) (.slice At xt.length ct) _:=x2;have x3:aL (w.heap.size+2) 87 (.int .i64 fu) (.slice Au xu.length cu) _:=x3;have x4:aL (w.heap.size+3) 87 (.int .i64 fv) (.slice Av xv.length cv) _:=x4;generalize ((((w.alloc (.cells #[.int .i64 fs,.slice As xs.length cs] 87)).alloc (.cells #[.int .i64 ft,.slice At xt.length ct] 87)).alloc (.cells #[.int .i64 fu,.slice Au xu.length cu] 87)).alloc (.cells #[.int .i64 fv,.slice Av xv.length cv] 87))=w4 at x1 x2 x3 x4 hB4 hz4 H1 H2 H3 H4 ⊢;have X1:=Lh x1;have X2:=Lh x2;have X3:=Lh x3;have X4:=Lh x4;have HB4:=Lh hB4;clear x1 x2 x3 x4 hB4;cases b1 with
 | true=>
  refine rg 21 (λ_ w'=>Below w4.heap.size w4 w') ?_;intro wd hwd hbd;refine⟨?_,λhS=>?_⟩
  . exact hwd ▸ hbd
  refine tk 0 (.agg #[.int .i64 fs,.slice As xs.length cs]) hS ?_ λhS=>?_
  . intro w' L hn hw;obtain⟨z0,z1,-⟩:=(X1.out.low hw).cells;simp[execOp,go_sem,z0,z1]
  refine so 1 ?_;have hbd4:Below w4.heap.size w4 wd:=hwd ▸ hbd;have hc1:=bE fs xs (.slice As xs.length cs) B wd (H1.out.low hbd4 (by omega));rw[T1.out]at hc1;refine aG ?_ hc1 ?_
  . simp[execOp,resolve,invoke,go_sem]
  rintro e w5 ⟨rfl,hb5⟩;refine⟨_,rfl,?_⟩;refine gS ?_ λhS=>?_
  . exact hS.trans (hb5.mono hS.size)
  refine ta 2 (.bool (!true)) hS λhS=>?_
  refine ta 3 (.bool (!true)) hS λhS=>?_
  refine sk 4 hS λhS=>?_
  refine sk 5 hS λhS=>?_
  refine sk 6 hS λhS=>?_
  refine ta 7 (.bool false) hS λhS=>?_
  refine ta 8 (.bool false) hS λhS=>?_
  refine sk 9 hS λhS=>?_
  refine sk 10 hS λhS=>?_
  refine sk 11 hS λhS=>?_
  refine sk 12 hS λhS=>?_
  refine sk 13 hS λhS=>?_
  refine sk 14 hS λhS=>?_
  refine sk 15 hS λhS=>?_
  refine sk 16 hS λhS=>?_
  refine sk 17 hS λhS=>?_
  refine sk 18 hS λhS=>?_
  refine ta 19 (.bool false) hS λhS=>?_
  refine ta 20 (.bool false) hS λhS=>?_
  refine dn ?_;have hfin:=HB4.out.trans (hS.mono (show w.heap.size<=w4.heap.size by omega));have Hfin:=Lh hfin;clear hfin hS hwd hbd;go_wp2_with fail;go_ret;rw[Hres.out];exact⟨rfl,Hfin.out⟩
 | false=>
  cases b2 with
  | true=>
   refine rg 21 (λ_ w'=>Below w4.heap.size w4 w') ?_;intro wd hwd hbd;refine⟨?_,λhS=>?_⟩
   . exact hwd ▸ hbd
   refine tk 0 (.agg #[.int .i64 fs,.slice As xs.length cs]) hS ?_ λhS=>?_
   . intro w' L hn hw;obtain⟨z0,z1,-⟩:=(X1.out.low hw).cells;simp[execOp,go_sem,z0,z1]
   refine so 1 ?_;have hbd4:Below w4.heap.size w4 wd:=hwd ▸ hbd;have hc1:=bE fs xs (.slice As xs.length cs) B wd (H1.out.low hbd4 (by omega));rw[T1.out]at hc1;refine aG ?_ hc1 ?_
   . simp[execOp,resolve,invoke,go_sem]
   rintro e w5 ⟨rfl,hb5⟩;refine⟨_,rfl,?_⟩;refine gS ?_ λhS=>?_
   . exact hS.trans (hb5.mono hS.size)
   refine ta 2 (.bool (!false)) hS λhS=>?_
   refine ta 3 (.bool (!false)) hS λhS=>?_
   refine tk 4 (.agg #[.int .i64 fu,.slice Au xu.length cu]) hS ?_ λhS=>?_
   . intro w' L hn hw;obtain⟨z4,z5,-⟩:=(X3.out.low hw).cells;simp[execOp,go_sem,z4,z5]
   refine so 5 ?_;have hbw5:Below w4.heap.size w4 w5:=hbd4.trans (hb5.mono hbd4.size);have hc5:=bE fu xu (.slice Au xu.length cu) B w5 (H3.out.low hbw5 (by omega));rw[T3.out]at hc5;refine aG ?_ hc5 ?_
   . simp[execOp,resolve,invoke,go_sem]
   rintro e w6 ⟨rfl,hb6⟩;refine⟨_,rfl,?_⟩;refine gS ?_ λhS=>?_
   . exact hS.trans (hb6.mono hS.size)
   refine ta 6 (.bool (!true)) hS λhS=>?_
   refine ta 7 (.bool false) hS λhS=>?_
   refine ta 8 (.bool false) hS λhS=>?_
   refine sk 9 hS λhS=>?_
   refine sk 10 hS λhS=>?_
   refine sk 11 hS λhS=>?_
   refine sk 12 hS λhS=>?_
   refine sk 13 hS λhS=>?_
   refine sk 14 hS λhS=>?_
   refine sk 15 hS λhS=>?_
   refine sk 16 hS λhS=>?_
   refine sk 17 hS λhS=>?_
   refine sk 18 hS λhS=>?_
   refine ta 19 (.bool false) hS λhS=>?_
   refine ta 20 (.bool false) hS λhS=>?_
   refine dn ?_;have hfin:=HB4.out.trans (hS.mono (show w.heap.size<=w4.heap.size by omega));have Hfin:=Lh hfin;clear hfin hS hwd hbd;go_wp2_with fail;go_ret;rw[Hres.out];exact⟨rfl,Hfin.out⟩
  | false=>
   cases b4 with
   | true=>
    refine rg 21 (λ_ w'=>Below w4.heap.size w4 w') ?_;intro wd hwd hbd;refine⟨?_,λhS=>?_⟩
    . exact hwd ▸ hbd
    refine tk 0 (.agg #[.int .i64 fs,.slice As xs.length cs]) hS ?_ λhS=>?_
    . intro w' L hn hw;obtain⟨z0,z1,-⟩:=(X1.out.low hw).cells;simp[execOp,go_sem,z0,z1]
    refine so 1 ?_;have hbd4:Below w4.heap.size w4 wd:=hwd ▸ hbd;have hc1:=bE fs xs (.slice As xs.length cs) B wd (H1.out.low hbd4 (by omega));rw[T1.out]at hc1;refine aG ?_ hc1 ?_
    . simp[execOp,resolve,invoke,go_sem]
    rintro e w5 ⟨rfl,hb5⟩;refine⟨_,rfl,?_⟩;refine gS ?_ λhS=>?_
    . exact hS.trans (hb5.mono hS.size)
    refine ta 2 (.bool (!false)) hS λhS=>?_
    refine ta 3 (.bool (!false)) hS λhS=>?_
    refine tk 4 (.agg #[.int .i64 fu,.slice Au xu.length cu]) hS ?_ λhS=>?_
    . intro w' L hn hw;obtain⟨z4,z5,-⟩:=(X3.out.low hw).cells;simp[execOp,go_sem,z4,z5]
    refine so 5 ?_;have hbw5:Below w4.heap.size w4 w5:=hbd4.trans (hb5.mono hbd4.size);have hc5:=bE fu xu (.slice Au xu.length cu) B w5 (H3.out.low hbw5 (by omega));rw[T3.out]at hc5;refine aG ?_ hc5 ?_
    . simp[execOp,resolve,invoke,go_sem]
    rintro e w6 ⟨rfl,hb6⟩;refine⟨_,rfl,?_⟩;refine gS ?_ λhS=>?_
    . exact hS.trans (hb6.mono hS.size)
    refine ta 6 (.bool (!false)) hS λhS=>?_
    refine ta 7 (.bool true) hS λhS=>?_
    refine ta 8 (.bool true) hS λhS=>?_
    refine tk 9 (.agg #[.int .i64 ft,.slice At xt.length ct]) hS ?_ λhS=>?_
    . intro w' L hn hw;obtain⟨z2,z3,-⟩:=(X2.out.low hw).cells;simp[execOp,go_sem,z2,z3]
    refine tk 11 (.agg #[.int .i64 fv,.slice Av xv.length cv]) hS ?_ λhS=>?_
    . intro w' L hn hw;obtain⟨z6,z7,-⟩:=(X4.out.low hw).cells;simp[execOp,go_sem,z6,z7]
    refine so 10 ?_;have hbw6:Below w4.heap.size w4 w6:=hbw5.trans (hb6.mono hbw5.size);have hc10:=bE ft xt (.slice At xt.length ct) B w6 (H2.out.low hbw6 (by omega));rw[T2.out]at hc10;refine aG ?_ hc10 ?_
    . simp[execOp,resolve,invoke,go_sem]
    rintro e w7 ⟨rfl,hb7⟩;refine⟨_,rfl,?_⟩;refine gS ?_ λhS=>?_
    . exact hS.trans (hb7.mono hS.size)
    refine so 12 ?_;have hbw7:Below w4.heap.size w4 w7:=hbw6.trans (hb7.mono hbw6.size);have hc12:=bE fv xv (.slice Av xv.length cv) B w7 (H4.out.low hbw7 (by omega));rw[T4.out]at hc12;refine aG ?_ hc12 ?_
    . simp[execOp,resolve,invoke,go_sem]
    rintro e w8 ⟨rfl,hb8⟩;refine⟨_,rfl,?_⟩;refine gS ?_ λhS=>?_
    . exact hS.trans (hb8.mono hS.size)
    refine ta 13 (.bool true) hS λhS=>?_
    refine ta 14 (.slice Ap p.length cp) hS λhS=>?_
    refine ta 15 (.int .i64 (p.length:Nat)) hS λhS=>?_
    refine tk 16 (.bool b5) hS ?_ λhS=>?_
    . intros;simp[execOp,go_sem,hq5]
    refine ta 17 (.bool b5) hS λhS=>?_
    refine tk 18 (.bool (b3==b5)) hS ?_ λhS=>?_
    . intros;simp[execOp,go_sem,hq5]
    refine ta 19 (.bool (b3==b5)) hS λhS=>?_
    refine ta 20 (.bool (b3==b5)) hS λhS=>?_
    refine dn ?_;have hfin:=HB4.out.trans (hS.mono (show w.heap.size<=w4.heap.size by omega));have Hfin:=Lh hfin;clear hfin hS hwd hbd;go_wp2_with fail;go_ret;rw[Hres.out];exact⟨(by simp),Hfin.out⟩
   | false=>
    refine rg 21 (λ_ w'=>Below w4.heap.size w4 w') ?_;intro wd hwd hbd;refine⟨?_,λhS=>?_⟩
    . exact hwd ▸ hbd
    refine tk 0 (.agg #[.int .i64 fs,.slice As xs.length cs]) hS ?_ λhS=>?_
    . intro w' L hn hw;obtain⟨z0,z1,-⟩:=(X1.out.low hw).cells;simp[execOp,go_sem,z0,z1]
    refine so 1 ?_;have hbd4:Below w4.heap.size w4 wd:=hwd ▸ hbd;have hc1:=bE fs xs (.slice As xs.length cs) B wd (H1.out.low hbd4 (by omega));rw[T1.out]at hc1;refine aG ?_ hc1 ?_
    . simp[execOp,resolve,invoke,go_sem]
    rintro e w5 ⟨rfl,hb5⟩;refine⟨_,rfl,?_⟩;refine gS ?_ λhS=>?_
    . exact hS.trans (hb5.mono hS.size)
    refine ta 2 (.bool (!false)) hS λhS=>?_
    refine ta 3 (.bool (!false)) hS λhS=>?_
    refine tk 4 (.agg #[.int .i64 fu,.slice Au xu.length cu]) hS ?_ λhS=>?_
    . intro w' L hn hw;obtain⟨z4,z5,-⟩:=(X3.out.low hw).cells;simp[execOp,go_sem,z4,z5]
    refine so 5 ?_;have hbw5:Below w4.heap.size w4 w5:=hbd4.trans (hb5.mono hbd4.size);have hc5:=bE fu xu (.slice Au xu.length cu) B w5 (H3.out.low hbw5 (by omega));rw[T3.out]at hc5;refine aG ?_ hc5 ?_
    . simp[execOp,resolve,invoke,go_sem]
    rintro e w6 ⟨rfl,hb6⟩;refine⟨_,rfl,?_⟩;refine gS ?_ λhS=>?_
    . exact hS.trans (hb6.mono hS.size)
    refine ta 6 (.bool (!false)) hS λhS=>?_
    refine ta 7 (.bool true) hS λhS=>?_
    refine ta 8 (.bool true) hS λhS=>?_
    refine tk 9 (.agg #[.int .i64 ft,.slice At xt.length ct]) hS ?_ λhS=>?_
    . intro w' L hn hw;obtain⟨z2,z3,-⟩:=(X2.out.low hw).cells;simp[execOp,go_sem,z2,z3]
    refine tk 11 (.agg #[.int .i64 fv,.slice Av xv.length cv]) hS ?_ λhS=>?_
    . intro w' L hn hw;obtain⟨z6,z7,-⟩:=(X4.out.low hw).cells;simp[execOp,go_sem,z6,z7]
    refine so 10 ?_;have hbw6:Below w4.heap.size w4 w6:=hbw5.trans (hb6.mono hbw5.size);have hc10:=bE ft xt (.slice At xt.length ct) B w6 (H2.out.low hbw6 (by omega));rw[T2.out]at hc10;refine aG ?_ hc10 ?_
    . simp[execOp,resolve,invoke,go_sem]
    rintro e w7 ⟨rfl,hb7⟩;refine⟨_,rfl,?_⟩;refine gS ?_ λhS=>?_
    . exact hS.trans (hb7.mono hS.size)
    refine so 12 ?_;have hbw7:Below w4.heap.size w4 w7:=hbw6.trans (hb7.mono hbw6.size);have hc12:=bE fv xv (.slice Av xv.length cv) B w7 (H4.out.low hbw7 (by omega));rw[T4.out]at hc12;refine aG ?_ hc12 ?_
    . simp[execOp,resolve,invoke,go_sem]
    rintro e w8 ⟨rfl,hb8⟩;refine⟨_,rfl,?_⟩;refine gS ?_ λhS=>?_
    . exact hS.trans (hb8.mono hS.size)
    refine ta 13 (.bool false) hS λhS=>?_
    refine sk 14 hS λhS=>?_
    refine sk 15 hS λhS=>?_
    refine sk 16 hS λhS=>?_
    refine ta 17 (.bool false) hS λhS=>?_
    refine tk 18 (.bool (b3==false)) hS ?_ λhS=>?_
    . intros;simp[execOp,go_sem,hq5]
    refine ta 19 (.bool (b3==false)) hS λhS=>?_
    refine ta 20 (.bool (b3==false)) hS λhS=>?_
    refine dn ?_;have hfin:=HB4.out.trans (hS.mono (show w.heap.size<=w4.heap.size by omega));have Hfin:=Lh hfin;clear hfin hS hwd hbd;go_wp2_with fail;go_ret;rw[Hres.out];exact⟨(by simp),Hfin.out⟩
def kO (m:Mt)(s:Bool)(v:Int)(_:Nat):Bool:=s || (m.get (wrap64 (-1-v))).isNone
def iG (B bm gm bp bf:Nat)(m:Mt)(s:Bool)(w:World):Prop:=aU bf 4 (.bool s) w/\aU bp 120 (.pointer (some ⟨bm,0,none⟩)) w/\MtI B bm gm m w/\¬MtF bm gm w bf
theorem iG.ok {B bm gm bp bf:Nat} {m:Mt} (h1:B<=bm)(h2:B<=gm):StOk (λk=>k=bf) (iG B bm gm bp bf m) where
 low s w w' h hb:=⟨h.1.low hb,h.2.1.low hb,((MtI.ok h1 h2).low m w w' h.2.2.1 hb).1,λe=>h.2.2.2 (((MtI.ok h1 h2).low m w w' h.2.2.1 hb).2 _ e)⟩
 lt s w k h hk:=by subst hk;exact h.1.lt
theorem iG.set {B bm gm bp bf:Nat} {m:Mt} {s:Bool} {w:World} (h:iG B bm gm bp bf m s w)(h3:B<=bf)(b:Bool):iG B bm gm bp bf m b (w.setCell ⟨bf,0,none⟩ (.bool b)):=by
 obtain⟨k1,k2,k3,k4⟩:=h;have hu:Upd w (w.setCell ⟨bf,0,none⟩ (.bool b)) (λk=>k=bf):=aM _;have hB:B<=w.heap.size:=by have:=k1.lt;omega
 obtain⟨j1,j2⟩:=k3.upd hu (by rintro k rfl;exact⟨k4,h3⟩) hB;exact⟨k1.set _,k2.upd hu (k2.ne k1 (by decide)),j1,λe=>k4 ((j2 _).1 e)⟩
theorem aC8 (B bm gm bp bf:Nat)(hgt:B<=bm)(hgb:B<=gm)(hgf:B<=bf)(m:Mt)(s:Bool)(v:Int)(n:Nat)(w:World)(h:iG B bm gm bp bf m s w):
 Calls Try.prog 77 (#[.int .i64 v,.int .i64 (n:Nat)]++ #[.pointer (some ⟨bp,0,none⟩),.pointer (some ⟨bf,0,none⟩)]) w (pM (λk=>k=bf) (iG B bm gm bp bf m) (kO m s v n) w):=by
 have HI:=Lh h;obtain⟨vo,vals,hMt⟩:=h.2.2.1;have p0:=h.2.1.cell;have z0:=hMt.box.cells.1;have hlk:=hMt.map.lookup_ok fT Try.underlying109 (iT w) (wrap64 (-1-v));cases hm:m.get (wrap64 (-1-v))with
 | none=>
  rw[hm]at hlk;simp only[Option.map_none,Option.getD_none,Option.isSome_none,cE]at hlk;clear h hMt;go_enter Try.func77,Try.ntmps77;go_upto_region 1 with fail
  have hbx:=aD w (.cells #[.int .i64 0,(.slice none 0 0)] 87);generalize w.alloc (.cells #[.int .i64 0,(.slice none 0 0)] 87)=w2 at hbx ⊢;have hI2:=(iG.ok (bp:=bp) (bf:=bf) (m:=m) hgt hgb).low s w w2 HI.out hbx;have f0:=hI2.1.cell;have f1:=hI2.1.free;have hset:=hI2.set hgf (s || true);have hup:Upd w _ (λk=>k=bf):=(Upd.low hbx _).trans (aM (w:=w2) (b:=bf) (o:=0) (.bool (s || true))) (λi e=>.inl e);have Hset:=Lh hset;have Hup:=Lh hup;clear hset hup hlk hbx hI2 p0 z0;cases s;all_goals
   go_wp2_with fail;go_end0
   exact⟨rfl,by unfold kO;rw[hm];exact Hset.out,Hup.out⟩
 | some t=>
  have hrx:=hMt.rd _ _ hm;obtain⟨A7,c7,hv7,-,-,-⟩:=hrx.tm_form;rw[hm]at hlk;simp only[Option.map_some,Option.getD_some,Option.isSome_some,hv7,cE]at hlk;clear h hMt hrx;go_enter Try.func77,Try.ntmps77;go_upto_region 1 with fail
  have hbx:=aD w (.cells #[.int .i64 t.fn,(.slice A7 t.args.length c7)] 87);generalize w.alloc (.cells #[.int .i64 t.fn,(.slice A7 t.args.length c7)] 87)=w2 at hbx ⊢;have hI2:=(iG.ok (bp:=bp) (bf:=bf) (m:=m) hgt hgb).low s w w2 HI.out hbx;have f0:=hI2.1.cell;have f1:=hI2.1.free;have hset:=hI2.set hgf (s || false);have hup:Upd w _ (λk=>k=bf):=(Upd.low hbx _).trans (aM (w:=w2) (b:=bf) (o:=0) (.bool (s || false))) (λi e=>.inl e);have Hset:=Lh hset;have Hup:=Lh hup;clear hset hup hlk hbx hI2 p0 z0;cases s;all_goals
   go_wp2_with fail;go_end0
   exact⟨rfl,by unfold kO;rw[hm];exact Hset.out,Hup.out⟩
theorem vZ:∀(p:List Int) (t q:Tm),atT t p=some q->aK q<=aK t
 | [],.mk f xs,q,h=>by rw[atT]at h;obtain rfl:=Option.some.inj h;exact Nat.le_refl _
 | i::p,.mk f xs,q,h=>by
  by_cases hi:0<=i/\i<xs.length
  . have hl:i.toNat<xs.length:=(by omega);rw[pS hi.1 hl]at h;have:=vZ p _ q h;have:=aZ hl;simp only[aK];omega
  rw[pR hi]at h;cases h
theorem oW:∀(xs:List Tm) (k n:Nat) (t:Tm) (h:k<xs.length),aK t<=aK xs[k]+n->aI (xs.set k t)<=aI xs+n
 | x::xs,0,n,t,h,h2=>by simp only[List.getElem_cons_zero]at h2;simp only[List.set_cons_zero,aI];omega
 | x::xs,k+1,n,t,h,h2=>by
  have:=oW xs k n t (by simpa using h) (by simpa using h2);simp only[List.set_cons_succ,aI];omega
theorem tQ:∀(p:List Int) (t u:Tm),aK (eJ t p u)<=aK t+aK u
 | [],.mk f xs,u=>by rw[eJ];omega
 | i::p,.mk f xs,u=>by
  rw[eJ];by_cases hl:i.toNat<xs.length
  . rw[List.getElem?_eq_getElem hl];have:=oW xs i.toNat (aK u) (eJ xs[i.toNat] p u) hl (tQ p _ u);simp only[aK]at this ⊢;omega
  rw[List.getElem?_eq_none (by omega)];simp only[aK];omega
theorem tV:∀(c:Cl) (k:Nat) (x:Lt),aR (c.set k x)<=aR c+dN x
 | [],k,x=>by simp[aR]
 | y::c,0,x=>by simp only[List.set_cons_zero,aR,List.map_cons,List.sum_cons];omega
 | y::c,k+1,x=>by
  have:=tV c k x;unfold aR at this ⊢;simp only[List.set_cons_succ,List.map_cons,List.sum_cons];omega
theorem zA (c:Cl)(i:Nat)(x:Lt)(r:Bool)(p:List Int)(t:Tm):aR (eD c i x r p t)<=aR c+dN x+aK t:=by
 unfold eD;have h1:=tV c i (nG x r (eJ (fF x r) p t));have h2:=tQ p (fF x r) t;have h3:dN (nG x r (eJ (fF x r) p t))<=dN x+aK t:=by
  unfold nG fF dN at*;cases r <;> simp at* <;> omega
 omega
theorem oI {x:Lt} {n:Nat} (h:aK x.l<=n/\aK x.r<=n)(r:Bool):aK (aV x r)<=n:=by
 unfold aV;split
 . exact h.2
 exact h.1
theorem aJ2 {x:Lt} (h:eV x.l=true/\eV x.r=true)(r:Bool):eV (aV x r)=true:=by
 unfold aV;split
 . exact h.2
 exact h.1
end Go.Proofs.Ytiaoabfndnidiaa