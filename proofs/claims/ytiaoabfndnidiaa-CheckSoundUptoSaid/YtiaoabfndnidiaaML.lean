/-
 Part 12 of the proof over the checker:walks and plain laws.
-/
import Derived.Test.YtiaoabfndnidiaaMK
import Derived.Test.YtiaoabfndnidiaaMJ
set_option maxRecDepth 100000
set_option maxHeartbeats 8000000
set_option linter.unusedSimpArgs false
set_option linter.unusedVariables false
namespace Go.Proofs.Ytiaoabfndnidiaa
open Go.RowKit
structure Itp where
 N:Int
 app:Int->List Int->Int
mutual
def cG (I:Itp)(env:Int->Int):Tm->Int
 | .mk f xs=>if f<0 then env f else I.app f (cO I env xs)
def cO (I:Itp)(env:Int->Int):List Tm->List Int
 | []=>[]
 | x::xs=>cG I env x::cO I env xs
end
theorem gJ (I:Itp)(env:Int->Int):∀xs:List Tm,cO I env xs=xs.map (cG I env)
 | []=>by rw[cO];rfl
 | x::xs=>by rw[cO,gJ I env xs];rfl
def nI (I:Itp)(σ:Int->Option Tm)(env:Int->Int)(f:Int):Int:=match σ f with
 | some y=>cG I env y
 | none=>env f
mutual
theorem eN (I:Itp)(σ:Int->Option Tm)(env:Int->Int):∀t:Tm,cG I env (cX σ t)=cG I (nI I σ env) t
 | .mk f xs=>by
  rw[cX,cG];by_cases hf:f<0
  . rw[if_pos hf,if_pos hf];unfold nI;cases σ f with
    | none=>rw[cG,if_pos hf]
    | some y=>rfl
  rw[if_neg hf,if_neg hf,cG,if_neg hf,uC I σ env xs]
theorem uC (I:Itp)(σ:Int->Option Tm)(env:Int->Int):∀xs:List Tm,cO I env (bY σ xs)=cO I (nI I σ env) xs
 | []=>by rw[bY,cO,cO]
 | x::xs=>by rw[bY,cO,cO,eN I σ env x,uC I σ env xs]
end
def cV (I:Itp)(env:Int->Int)(x:Lt):Prop:=(cG I env x.l=cG I env x.r)↔x.neg=false
def eQ (I:Itp)(env:Int->Int)(c:Cl):Prop:=∃x∈c,cV I env x
def InR (I:Itp)(v:Int):Prop:=0<=v/\v<I.N
def sP (I:Itp)(env:Int->Int):Prop:=∀f,f<0->InR I (env f)
structure ItpOk (g:Sg)(I:Itp):Prop where
 app:∀f vs,¬f<0->g.pr f=false->g.ar f=some vs.length->(∀v∈vs,InR I v)->InR I (I.app f vs)
mutual
theorem aJ7 {g:Sg} {I:Itp} {env:Int->Int} (hI:ItpOk g I)(he:sP I env):∀t:Tm,bQ g t->g.np t.fn->InR I (cG I env t)
 | .mk f xs,h,hn=>by
  rw[bQ]at h;rw[cG];by_cases hf:f<0
  . rw[if_pos hf];exact he f hf
  rw[if_neg hf];refine hI.app f _ hf (hn.resolve_left hf) ?_ (vN hI he xs h.2.2);rw[gJ,List.length_map];exact h.2.1 hf
theorem vN {g:Sg} {I:Itp} {env:Int->Int} (hI:ItpOk g I)(he:sP I env):∀xs:List Tm,bW g xs->∀v∈cO I env xs,InR I v
 | [],_,v,hv=>by rw[cO]at hv;cases hv
 | x::xs,h,v,hv=>by
  rw[bW]at h;rw[cO]at hv;rcases List.mem_cons.1 hv with rfl | hv
  . exact aJ7 hI he x h.1.1 h.1.2
  exact vN hI he xs h.2 v hv
end
def pN (g:Sg)(σ:Int->Option Tm):Prop:=∀f y,σ f=some y->bQ g y/\g.np y.fn
theorem nJ {g:Sg} {I:Itp} {σ:Int->Option Tm} {env:Int->Int} (hI:ItpOk g I)(hs:pN g σ)(he:sP I env):sP I (nI I σ env):=by
 intro f hf;unfold nI;cases h:σ f with
 | none=>exact he f hf
 | some y=>exact aJ7 hI he y (hs f y h).1 (hs f y h).2
theorem lR {I:Itp} {σ:Int->Option Tm} {env:Int->Int} (x:Lt):cV I env (aE4 σ x)↔cV I (nI I σ env) x:=by
 unfold cV aE4;simp only[eN]
theorem lQ {I:Itp} {σ:Int->Option Tm} {env:Int->Int} (c:Cl):eQ I env (gU σ c)↔eQ I (nI I σ env) c:=by
 unfold eQ gU;constructor
 . rintro⟨x,hx,h⟩;obtain⟨y,hy,rfl⟩:=List.mem_map.1 hx;exact⟨y,hy,(lR y).1 h⟩
 rintro⟨y,hy,h⟩;exact⟨_,List.mem_map.2 ⟨y,hy,rfl⟩,(lR y).2 h⟩
def eH (I:Itp)(c:Cl):Prop:=∀env,sP I env->eQ I env c
theorem gY {I:Itp} {env:Int->Int} {c:Cl} {i:Nat} (h:eQ I env c)(hn:∀x,c[i]? =some x->¬cV I env x\/eQ I env (c.eraseIdx i)):eQ I env (c.eraseIdx i):=by
 obtain⟨x,hx,hh⟩:=h;obtain⟨j,hj,rfl⟩:=List.mem_iff_getElem.1 hx;by_cases e:j=i
 . subst e;rcases hn c[j] (List.getElem?_eq_getElem hj)with h | h
   . exact absurd hh h
   exact h
 exact⟨c[j],List.mem_eraseIdx_iff_getElem.2 ⟨j,hj,e,rfl⟩,hh⟩
mutual
theorem gR:∀x y:Tm,dZ x y=true->x=y
 | .mk f xs,.mk g ys,h=>by
  rw[dZ]at h;simp only[Bool.and_eq_true,decide_eq_true_eq]at h;rw[h.1.1,tU xs ys h.1.2 h.2]
theorem tU:∀xs ys:List Tm,xs.length=ys.length->jG xs ys=true->xs=ys
 | [],[],_,_=>rfl
 | [],_::_,h,_=>by simp at h
 | _::_,[],h,_=>by simp at h
 | x::xs,y::ys,hl,h=>by
  rw[jG,Bool.and_eq_true]at h;rw[gR x y h.1,tU xs ys (by simpa using hl) h.2]
end
theorem vW {I:Itp} {env:Int->Int} {x y:Lt} (h:jT x y=true):cV I env x↔cV I env y:=by
 unfold jT at h;simp only[Bool.and_eq_true,Bool.or_eq_true,decide_eq_true_eq]at h;unfold cV;rcases h.2 with⟨h1,h2⟩ | ⟨h1,h2⟩
 . rw[h.1,gR _ _ h1,gR _ _ h2]
 rw[h.1,gR _ _ h1,gR _ _ h2];constructor
 . exact λk=>⟨λe=>k.1 e.symm,λe=>(k.2 e).symm⟩
 exact λk=>⟨λe=>k.1 e.symm,λe=>(k.2 e).symm⟩
theorem aC2 {I:Itp} {s:Sp} {c d:Cl} (hc:eH I c)(h:pZ s c=some d):eH I d:=by
 unfold pZ at h;cases hx:c[li s 0]? with
 | none=>rw[hx]at h;cases h
 | some x=>
  rw[hx]at h;simp only at h;split at h
  . rename_i hb
    simp only[Bool.and_eq_true]at hb;obtain rfl:=Option.some.inj h;intro env he;refine gY (hc env he) λy hy=>?_
    rw[hx]at hy;obtain rfl:=Option.some.inj hy;refine .inl λhh=>?_
    unfold cV at hh;have:=hh.1 (by rw[gR _ _ hb.2]);rw[hb.1]at this;cases this
  cases h
theorem yP {g:Sg} {I:Itp} {s:Sp} {c d:Cl} (hI:ItpOk g I)(hc:eH I c)(hfit:∀x∈c,bQ g x.l/\bQ g x.r/\(g.np x.l.fn↔g.np x.r.fn))(h:lP s c=some d):eH I d:=by
 unfold lP at h;cases hx:c[li s 0]? with
 | none=>rw[hx]at h;cases h
 | some x=>
  rw[hx]at h;simp only at h;cases hu:cB x.l x.r with
  | none=>rw[hu]at h;cases h
  | some σ=>
   rw[hu]at h;simp only at h;split at h
   . rename_i hneg
     obtain rfl:=Option.some.inj h;obtain⟨f1,f2,f3⟩:=hfit x (List.mem_of_getElem? hx);obtain⟨hsame,hsub⟩:=gI f1 f2 f3 hu;intro env he;rw[lQ];refine gY (hc _ (nJ hI hsub he)) λy hy=>?_
     rw[hx]at hy;obtain rfl:=Option.some.inj hy;refine .inl λhh=>?_
     unfold cV at hh;have:=hh.1 (by rw[<-eN,<-eN,hsame]);rw[hneg]at this;cases this
   cases h
theorem eT.low' {b:Nat} {t:TypeId} {x0 x1 x2 x3 x4:Value} {w w':World} (h:eT b t x0 x1 x2 x3 x4 w)(hb:Below w.heap.size w w'):eT b t x0 x1 x2 x3 x4 w':=(hb.block b h.lt).trans h
def aG2 (m:Nat)(w:World)(e:Ending)(w':World):Prop:=∃n:Nat,n<=m/\e=.returned (.int .i64 n)/\Below w.heap.size w w'
def pL (w:World)(e:Ending)(w':World):Prop:=∃b:Bool,e=.returned (.bool b)/\Below w.heap.size w w'
theorem rN (f:Int)(xs:List Tm)(v2:Value)(B:Nat)(w:World)(hr:Rd w B (.sl 2 (aH xs)) v2):
 Calls Try.prog 26 #[.agg #[.int .i64 f,v2]] w (aP (bJ f xs.length) w):=by
 obtain⟨A,c,rfl,hc,hn,hm⟩:=hr.tm_form;clear hr;by_cases hf:f=0
 . subst hf;by_cases hx:xs.length=0
   . have hb:bJ 0 xs.length=true:=(by unfold bJ;simp[hx]);have Hb:=Lh hb;have q:((xs.length:Int)==0)=true:=(by rw[hx];rfl);clear hb;go_enter Try.func26,Try.ntmps26;go_wp2_with fail;go_ret;exact⟨by rw[Hb.out];rfl,aD w _⟩
   have hb:bJ 0 xs.length=false:=by unfold bJ;simp[hx]
   have Hb:=Lh hb;have q:((xs.length:Int)==0)=false:=by rw[beq_eq_false_iff_ne];omega
   clear hb hx;go_enter Try.func26,Try.ntmps26;go_wp2_with fail;go_ret;exact⟨by rw[Hb.out];rfl,aD w _⟩
 have hb:bJ f xs.length=false:=by unfold bJ;simp[hf]
 have Hb:=Lh hb;have q:(f==0)=false:=by rw[beq_eq_false_iff_ne];exact hf
 clear hb hf;go_enter Try.func26,Try.ntmps26;go_wp2_with fail;go_ret;exact⟨by rw[Hb.out];rfl,aD w _⟩
theorem aD3 (x:Lt)(v:Value)(B:Nat)(w:World)(hv:LtV w B x v)(hz:dN x<=2000000)(hB:B<=w.heap.size):
 Calls Try.prog 31 #[v] w (aG2 4000000 w):=by
 obtain⟨n0,⟨f1,ys1⟩,⟨f2,ys2⟩⟩:=x;obtain⟨A1,c1,A2,c2,rfl,h1,h2⟩:=hv;simp only[Tm.fn,Tm.args]at h1 h2 ⊢;simp only[dN,aK]at hz;obtain⟨bt,ht⟩:∃b,bJ f2 ys2.length=b:=⟨_,rfl⟩;have H1:=Lh h1;have H2:=Lh h2;have Ht:=Lh ht;clear h1 h2 ht;cases bt with
 | true=>
  go_enter Try.func31,Try.ntmps31;go_upto_region 1 with fail
  have hbx:=aD w (.cells #[.bool n0,.int .i64 f1,.slice A1 ys1.length c1,.int .i64 f2,.slice A2 ys2.length c2] 53);have hx1:eT w.heap.size 53 (.bool n0) (.int .i64 f1) (.slice A1 ys1.length c1) (.int .i64 f2) (.slice A2 ys2.length c2) (w.alloc (.cells #[.bool n0,.int .i64 f1,.slice A1 ys1.length c1,.int .i64 f2,.slice A2 ys2.length c2] 53)):=heap_alloc_new w _;generalize w.alloc (.cells #[.bool n0,.int .i64 f1,.slice A1 ys1.length c1,.int .i64 f2,.slice A2 ys2.length c2] 53)=w1 at hbx hx1 ⊢;have hz1:=hbx.size;have HX1:=Lh hx1;have HB1:=Lh hbx;obtain⟨x0,x1,x2,x3,x4⟩:=hx1.cells;clear hx1 hbx;go_wp2_with (
   first
   | (
    skip
    go_at_call 18
    refine(iM (aI ys1+1) f1 ys1 _ B w1 (by omega) (by omega) (H1.out.low HB1.out hB) (by omega)).mono ?_;rintro e w2 ⟨rfl,hb2⟩;obtain⟨x0,x1,x2,x3,x4⟩:=(HX1.out.low' hb2).cells;have Hb2:=Lh hb2;clear hb2
     )
   | (
    skip
    go_at_call 26
    refine(rN f2 ys2 _ B _ (H2.out.low (HB1.out.trans (Hb2.out.mono hz1)) hB)).mono ?_;rintro e w3 ⟨rfl,hb3⟩;rw[Ht.out];obtain⟨x0,x1,x2,x3,x4⟩:=((HX1.out.low' Hb2.out).low' hb3).cells;have Hb3:=Lh hb3;clear hb3
     ))
  go_ret;exact⟨aI ys1+1,by omega,rfl,HB1.out.trans ((Hb2.out.trans (Hb3.out.mono Hb2.out.size)).mono hz1)⟩
 | false=>
  go_enter Try.func31,Try.ntmps31;go_upto_region 1 with fail
  have hbx:=aD w (.cells #[.bool n0,.int .i64 f1,.slice A1 ys1.length c1,.int .i64 f2,.slice A2 ys2.length c2] 53);have hx1:eT w.heap.size 53 (.bool n0) (.int .i64 f1) (.slice A1 ys1.length c1) (.int .i64 f2) (.slice A2 ys2.length c2) (w.alloc (.cells #[.bool n0,.int .i64 f1,.slice A1 ys1.length c1,.int .i64 f2,.slice A2 ys2.length c2] 53)):=heap_alloc_new w _;generalize w.alloc (.cells #[.bool n0,.int .i64 f1,.slice A1 ys1.length c1,.int .i64 f2,.slice A2 ys2.length c2] 53)=w1 at hbx hx1 ⊢;have hz1:=hbx.size;have HX1:=Lh hx1;have HB1:=Lh hbx;obtain⟨x0,x1,x2,x3,x4⟩:=hx1.cells;clear hx1 hbx;go_wp2_with (
   first
   | (
    go_at_call 18
    refine(iM (aI ys2+1) f2 ys2 _ B _ (by omega) (by omega) (H2.out.low (HB1.out.trans ((Hb2.out.trans (Hb3.out.mono Hb2.out.size)).mono hz1)) hB) (by have:=Hb2.out.size;have:=Hb3.out.size;omega)).mono ?_;rintro e w4 ⟨rfl,hb4⟩;have Hb4:=Lh hb4;clear hb4)
   | (
    skip
    go_at_call 18
    refine(iM (aI ys1+1) f1 ys1 _ B w1 (by omega) (by omega) (H1.out.low HB1.out hB) (by omega)).mono ?_;rintro e w2 ⟨rfl,hb2⟩;obtain⟨x0,x1,x2,x3,x4⟩:=(HX1.out.low' hb2).cells;have Hb2:=Lh hb2;clear hb2
     )
   | (
    skip
    go_at_call 26
    refine(rN f2 ys2 _ B _ (H2.out.low (HB1.out.trans (Hb2.out.mono hz1)) hB)).mono ?_;rintro e w3 ⟨rfl,hb3⟩;rw[Ht.out];obtain⟨x0,x1,x2,x3,x4⟩:=((HX1.out.low' Hb2.out).low' hb3).cells;have Hb3:=Lh hb3;clear hb3
     ))
  go_ret;have:=Hb2.out.size;have:=Hb3.out.size;exact⟨(aI ys1+1)+(aI ys2+1),by omega,by simp,HB1.out.trans ((Hb2.out.trans ((Hb3.out.trans (Hb4.out.mono (by omega))).mono (by omega))).mono hz1)⟩
theorem zC (c:Cl)(v:Value)(B:Nat)(w:World)(hr:Rd w B (aT c) v)(hz:aR c<=2000000)(hB:B<=w.heap.size):
 Calls Try.prog 17 #[v] w (aG2 8000000000000 w):=by
 obtain⟨A,cp,rfl,hc,hn,hm⟩:=Rd.cl_form hr;have hlz:=gE c;have H3:=Lh hr;clear hr;go_enter Try.func17,Try.ntmps17;go_wp2_with fail;go_loopw [3,4] (λn i wr=>∃k m:Nat,k<=c.length/\i=.int .i64 k/\n=.int .i64 m/\m<=k*4000000/\Below w.heap.size w wr) (λ_ i _=>c.length-(intOf i).toNat)
 case atStart=>exact⟨0,0,Nat.zero_le _,rfl,rfl,by omega,Below.refl _ _⟩
 obtain⟨k,m,hk,rfl,rfl,hmk,hbel⟩:=hrel;have Hbel:=Lh hbel;clear hbel;by_cases hlt:k<c.length
 . have hmem:=iO hlt;obtain⟨ab,off,n0,f1,ys1,A1,c1,f2,ys2,A2,c2,rfl,hxk,hb,k0,k1,k2,k3,k4,hr1,hr2⟩:=(H3.out.low Hbel.out hB).lt_at hlt;have hcl:=aD3 c[k] (.agg #[.bool n0,.int .i64 f1,.slice A1 ys1.length c1,.int .i64 f2,.slice A2 ys2.length c2]) B wr (by rw[hxk];exact⟨A1,c1,A2,c2,rfl,hr1,hr2⟩) (by omega) (by have:=Hbel.out.size;omega);have Hcl:=Lh hcl;clear hxk hr1 hr2 hcl hmem;go_wp2_with (
    go_at_call 31
    refine Hcl.out.mono ?_;rintro e w1 ⟨n,hnn,rfl,hb1⟩)
   go_roundw
   case rel=>exact⟨k+1,m+n,by omega,by go_num,by simp,by omega,Hbel.out.trans (hb1.mono Hbel.out.size)⟩
   case measure=>simp[intOf];omega
 go_wp2_with fail;go_ret;exact⟨m,by omega,rfl,Hbel.out⟩
theorem aC6 (cs:List Cl)(v:Value)(B:Nat)(w:World)(hr:Rd w B (eY cs) v)(hz:∀c∈cs,aR c<=2000000)(hB:B<=w.heap.size):
 Calls Try.prog 6 #[v] w (pL w):=by
 obtain⟨A,cp,rfl,hc,hn,hm⟩:=Rd.row_form (show Rd w B (.sl 1 (cs.map λc=>[aT c])) v from hr);have H3:=Lh hr;clear hr;go_enter Try.func6,Try.ntmps6;go_wp2_with fail;go_loopw [3,4] (λn i wr=>∃k m:Nat,k<=cs.length/\i=.int .i64 k/\n=.int .i64 m/\m<=140737488351232+8000000000000/\Below w.heap.size w wr) (λ_ i _=>cs.length-(intOf i).toNat)
 case atStart=>exact⟨0,cs.length,Nat.zero_le _,rfl,rfl,by omega,Below.refl _ _⟩
 obtain⟨k,m,hk,rfl,rfl,hmk,hbel⟩:=hrel;have Hbel:=Lh hbel;clear hbel;by_cases hlt:k<cs.length
 . by_cases hgt:m<=3000
   . have hgt':(m:Int)<=3000:=(by omega);obtain⟨ab,off,A1,c1,rfl,hb,k0,hr1⟩:=(H3.out.low Hbel.out hB).cl_at hlt;have hcl:=zC cs[k] _ B wr hr1 (hz _ (List.getElem_mem hlt)) (by have:=Hbel.out.size;omega);have Hcl:=Lh hcl;clear hr1 hcl;go_wp2_with (
      go_at_call 17
      refine Hcl.out.mono ?_;rintro e w1 ⟨n,hnn,rfl,hb1⟩)
     go_roundw
     case rel=>exact⟨k+1,m+n,by omega,by go_num,by simp,by omega,Hbel.out.trans (hb1.mono Hbel.out.size)⟩
     case measure=>simp[intOf];omega
   have hgt':¬((m:Int)<=3000):=by omega
   go_wp2_with fail;go_ret;exact⟨_,rfl,Hbel.out⟩
 go_wp2_with fail;go_ret;exact⟨_,rfl,Hbel.out⟩
theorem vR (z:Int)(h: -9223372036854775808<=z/\z<=9223372036854775807):IntKind.i64.wrap z=z:=IntWalk.i64_in _ (by omega)
theorem wP (ps:List Sp)(v:Value)(B:Nat)(w:World)(hr:Rd w B (gO ps) v)(hz:∀s∈ps,aR s.clause<=2000000)(hB:B<=w.heap.size):
 Calls Try.prog 7 #[v] w (pL w):=by
 obtain⟨A,cp,rfl,hc,hn,hm⟩:=Rd.row_form (show Rd w B (.sl 6 (ps.map eZ)) v from hr);have H3:=Lh hr;have Hz:=Lh hz;clear hr hz;go_enter Try.func7,Try.ntmps7;go_upto_region 3 with fail
 go_loopw [3,4] (λn i wr=>∃k m:Nat,k<=ps.length/\i=.int .i64 k/\n=.int .i64 m/\m<=1000000000000000/\Below w.heap.size w wr) (λ_ i _=>ps.length-(intOf i).toNat)
 case atStart=>exact⟨0,0,Nat.zero_le _,rfl,rfl,by omega,Below.refl _ _⟩
 obtain⟨k,m,hk,rfl,rfl,hmk,hbel⟩:=hrel;have Hbel:=Lh hbel;have hzr:=hbel.size;clear hbel;by_cases hlt:k<ps.length
 . by_cases h300:(k:Int)<=300
   . by_cases hgt:(m:Int)<=20000
     . obtain⟨pb,po,u1,u2,u3,u4,u5,rfl,hpb,-,p1,p2,p3,p4,p5,hsn⟩:=(H3.out.low Hbel.out hB).sp_at hlt;have hzc:=Hz.out _ (List.getElem_mem hlt);obtain⟨s,hs⟩:∃s,ps[k]=s:=⟨_,rfl⟩;rw[hs]at hsn hzc;obtain⟨A1,c1,A2,c2,A3,c3,A4,c4,A5,c5,rfl,rfl,rfl,rfl,rfl,n1,n2,n3,n4,n5⟩:=hsn.forms;have hcl:=hsn.clause;have Hcl:=Lh hcl;have P1:=Lh p1;have P2:=Lh p2;have P3:=Lh p3;have P4:=Lh p4;have P5:=Lh p5;have hkp:¬((ps.length:Int)<=(k:Int)):=(by omega);clear hsn hcl p1 p2 p3 p4 p5 hs;obtain⟨wo,hwo⟩:∃wo:World,wo=wr:=⟨_,rfl⟩;subst hwo;go_upto_region 5 with fail
       refine rg 30 (λ_ w'=>Below wo.heap.size wo w') ?_;intro wd hwd hbd;refine⟨?_,λhS=>?_⟩
       . exact hwd ▸ hbd
       refine ta 0 (.int .i64 (m:Nat)) hS λhS=>?_
       refine ta 1 (.slice (some ⟨pb,po,none⟩) ps.length cp) hS λhS=>?_
       refine ta 2 (.int .i64 (k:Nat)) hS λhS=>?_
       refine tk 3 (.pointer (some ⟨pb,po+k*6,none⟩)) hS ?_ λhS=>?_
       . intros;simp[execOp,go_sem,hlt,hkp]
       refine ta 4 (.pointer (some ⟨pb,po+k*6+1,none⟩)) hS λhS=>?_
       refine tk 5 (.slice A1 s.parents.length c1) hS ?_ λhS=>?_
       . intro w' L hn hw;have q1:=(hw.cell (p:=⟨pb,po+k*6+1,none⟩) (show pb<wo.heap.size by omega)).trans P1.out;simp[execOp,go_sem,q1]
       refine ta 6 (.int .i64 (s.parents.length:Nat)) hS λhS=>?_
       refine tk 7 (.int .i64 ((m:Int)+(s.parents.length:Int))) hS ?_ λhS=>?_
       . intros;simp[execOp,go_sem,vR ((m:Int)+(s.parents.length:Int)) (by omega)]
       refine ta 8 (.slice (some ⟨pb,po,none⟩) ps.length cp) hS λhS=>?_
       refine ta 9 (.int .i64 (k:Nat)) hS λhS=>?_
       refine tk 10 (.pointer (some ⟨pb,po+k*6,none⟩)) hS ?_ λhS=>?_
       . intros;simp[execOp,go_sem,hlt,hkp]
       refine ta 11 (.pointer (some ⟨pb,po+k*6+2,none⟩)) hS λhS=>?_
       refine tk 12 (.slice A2 s.lits.length c2) hS ?_ λhS=>?_
       . intro w' L hn hw;have q2:=(hw.cell (p:=⟨pb,po+k*6+2,none⟩) (show pb<wo.heap.size by omega)).trans P2.out;simp[execOp,go_sem,q2]
       refine ta 13 (.int .i64 (s.lits.length:Nat)) hS λhS=>?_
       refine tk 14 (.int .i64 ((m:Int)+(s.parents.length:Int)+(s.lits.length:Int))) hS ?_ λhS=>?_
       . intros;simp[execOp,go_sem,vR ((m:Int)+(s.parents.length:Int)+(s.lits.length:Int)) (by omega)]
       refine ta 15 (.slice (some ⟨pb,po,none⟩) ps.length cp) hS λhS=>?_
       refine ta 16 (.int .i64 (k:Nat)) hS λhS=>?_
       refine tk 17 (.pointer (some ⟨pb,po+k*6,none⟩)) hS ?_ λhS=>?_
       . intros;simp[execOp,go_sem,hlt,hkp]
       refine ta 18 (.pointer (some ⟨pb,po+k*6+3,none⟩)) hS λhS=>?_
       refine tk 19 (.slice A3 s.right.length c3) hS ?_ λhS=>?_
       . intro w' L hn hw;have q3:=(hw.cell (p:=⟨pb,po+k*6+3,none⟩) (show pb<wo.heap.size by omega)).trans P3.out;simp[execOp,go_sem,q3]
       refine ta 20 (.int .i64 (s.right.length:Nat)) hS λhS=>?_
       refine tk 21 (.int .i64 ((m:Int)+(s.parents.length:Int)+(s.lits.length:Int)+(s.right.length:Int))) hS ?_ λhS=>?_
       . intros;simp[execOp,go_sem,vR ((m:Int)+(s.parents.length:Int)+(s.lits.length:Int)+(s.right.length:Int)) (by omega)]
       refine ta 22 (.slice (some ⟨pb,po,none⟩) ps.length cp) hS λhS=>?_
       refine ta 23 (.int .i64 (k:Nat)) hS λhS=>?_
       refine tk 24 (.pointer (some ⟨pb,po+k*6,none⟩)) hS ?_ λhS=>?_
       . intros;simp[execOp,go_sem,hlt,hkp]
       refine ta 25 (.pointer (some ⟨pb,po+k*6+4,none⟩)) hS λhS=>?_
       refine tk 26 (.slice A4 s.pos.length c4) hS ?_ λhS=>?_
       . intro w' L hn hw;have q4:=(hw.cell (p:=⟨pb,po+k*6+4,none⟩) (show pb<wo.heap.size by omega)).trans P4.out;simp[execOp,go_sem,q4]
       refine ta 27 (.int .i64 (s.pos.length:Nat)) hS λhS=>?_
       refine tk 28 (.int .i64 ((m:Int)+(s.parents.length:Int)+(s.lits.length:Int)+(s.right.length:Int)+(s.pos.length:Int))) hS ?_ λhS=>?_
       . intros;simp[execOp,go_sem,vR ((m:Int)+(s.parents.length:Int)+(s.lits.length:Int)+(s.right.length:Int)+(s.pos.length:Int)) (by omega)]
       refine ta 29 (.int .i64 ((m:Int)+(s.parents.length:Int)+(s.lits.length:Int)+(s.right.length:Int)+(s.pos.length:Int))) hS λhS=>?_
       refine dn ?_;have HS:=Lh hS;clear hS;obtain⟨m1,hm1⟩:∃m1:Nat,(m:Int)+(s.parents.length:Int)+(s.lits.length:Int)+(s.right.length:Int)+(s.pos.length:Int)=(m1:Int):=⟨m+s.parents.length+s.lits.length+s.right.length+s.pos.length,by omega⟩;rw[hm1];have hm1b:m1<=1000000000000000:=(by omega);clear hm1;go_upto_region 7 with fail
       go_loopw [3,5] (λn i wr=>∃k2 m2:Nat,k2<=s.clause.length/\i=.int .i64 k2/\n=.int .i64 m2/\m2<=1000000000000000/\Below wo.heap.size wo wr) (λ_ i _=>s.clause.length-(intOf i).toNat)
       case atStart=>exact⟨0,m1,Nat.zero_le _,rfl,rfl,hm1b,HS.out⟩
       obtain⟨k2,m2,hk2,rfl,rfl,hmk2,hbel2⟩:=hrel;have Hbel2:=Lh hbel2;have hz2:=hbel2.size;clear hbel2;have q5:=(Hbel2.out.cell (p:=⟨pb,po+k*6+5,none⟩) (show pb<wo.heap.size by omega)).trans P5.out;by_cases hl2:k2<s.clause.length
       . by_cases hg2:(m2:Int)<=20000
         . go_upto_region 9 with fail
           have hmem:=iO hl2;obtain⟨ab,off,n0,f1,ys1,B1,d1,f2,ys2,B2,d2,rfl,hxk,hab,k0,j1,j2,j3,j4,hr1,hr2⟩:=(Hcl.out.low Hbel2.out (by omega)).lt_at hl2;rw[hxk]at hmem;simp only[dN,aK]at hmem;have HR1:=Lh hr1;have HR2:=Lh hr2;have J1:=Lh j1;have J2:=Lh j2;have J3:=Lh j3;have J4:=Lh j4;have Q5:=Lh q5;have hkk:¬((s.clause.length:Int)<=(k2:Int)):=(by omega);clear hxk k0 hr1 hr2 j1 j2 j3 j4 q5;refine rg 24 (λ_ w'=>Below wr.heap.size wr w') ?_;intro wd hwd hbd;refine⟨?_,λhS=>?_⟩
           . exact hwd ▸ hbd
           refine ta 0 (.int .i64 (m2:Nat)) hS λhS=>?_
           refine ta 1 (.slice (some ⟨pb,po,none⟩) ps.length cp) hS λhS=>?_
           refine ta 2 (.int .i64 (k:Nat)) hS λhS=>?_
           refine tk 3 (.pointer (some ⟨pb,po+k*6,none⟩)) hS ?_ λhS=>?_
           . intros;simp[execOp,go_sem,hlt,hkp]
           refine ta 4 (.pointer (some ⟨pb,po+k*6+5,none⟩)) hS λhS=>?_
           refine tk 5 (.slice (some ⟨ab,off,none⟩) s.clause.length c5) hS ?_ λhS=>?_
           . intro w' L hn hw;have q5:=(hw.cell (p:=⟨pb,po+k*6+5,none⟩) (show pb<wr.heap.size by omega)).trans Q5.out;simp[execOp,go_sem,q5]
           refine ta 6 (.int .i64 (k2:Nat)) hS λhS=>?_
           refine tk 7 (.pointer (some ⟨ab,off+k2*5,none⟩)) hS ?_ λhS=>?_
           . intros;simp[execOp,go_sem,hl2,hkk]
           refine ta 8 (.pointer (some ⟨ab,off+k2*5+1,none⟩)) hS λhS=>?_
           refine tk 9 (.agg #[.int .i64 f1,.slice B1 ys1.length d1]) hS ?_ λhS=>?_
           . intro w' L hn hw;have q1:=(hw.cell (p:=⟨ab,off+k2*5+1,none⟩) (show ab<wr.heap.size by omega)).trans J1.out;have q2:=(hw.cell (p:=⟨ab,off+k2*5+2,none⟩) (show ab<wr.heap.size by omega)).trans J2.out;simp[execOp,go_sem,q1,q2]
           refine ta 12 (.slice (some ⟨pb,po,none⟩) ps.length cp) hS λhS=>?_
           refine ta 13 (.int .i64 (k:Nat)) hS λhS=>?_
           refine tk 14 (.pointer (some ⟨pb,po+k*6,none⟩)) hS ?_ λhS=>?_
           . intros;simp[execOp,go_sem,hlt,hkp]
           refine ta 15 (.pointer (some ⟨pb,po+k*6+5,none⟩)) hS λhS=>?_
           refine tk 16 (.slice (some ⟨ab,off,none⟩) s.clause.length c5) hS ?_ λhS=>?_
           . intro w' L hn hw;have q5:=(hw.cell (p:=⟨pb,po+k*6+5,none⟩) (show pb<wr.heap.size by omega)).trans Q5.out;simp[execOp,go_sem,q5]
           refine ta 17 (.int .i64 (k2:Nat)) hS λhS=>?_
           refine tk 18 (.pointer (some ⟨ab,off+k2*5,none⟩)) hS ?_ λhS=>?_
           . intros;simp[execOp,go_sem,hl2,hkk]
           refine ta 19 (.pointer (some ⟨ab,off+k2*5+3,none⟩)) hS λhS=>?_
           refine tk 20 (.agg #[.int .i64 f2,.slice B2 ys2.length d2]) hS ?_ λhS=>?_
           . intro w' L hn hw;have q3:=(hw.cell (p:=⟨ab,off+k2*5+3,none⟩) (show ab<wr.heap.size by omega)).trans J3.out;have q4:=(hw.cell (p:=⟨ab,off+k2*5+4,none⟩) (show ab<wr.heap.size by omega)).trans J4.out;simp[execOp,go_sem,q3,q4]
           refine so 10 ?_;have hbd4:Below wr.heap.size wr wd:=hwd ▸ hbd;have hzd:wd.heap.size=wr.heap.size:=(by rw[hwd]);refine aG ?_ (iM (aI ys1+1) f1 ys1 _ B wd (by omega) (by omega) (HR1.out.low hbd4 (by omega)) (by omega)) ?_
           . simp[execOp,resolve,invoke,go_sem]
           rintro e w6 ⟨rfl,hb6⟩;refine⟨_,rfl,?_⟩;refine gS ?_ λhS=>?_
           . exact hS.trans (hb6.mono hS.size)
           refine tk 11 (.int .i64 ((m2:Int)+(aI ys1+1:Nat))) hS ?_ λhS=>?_
           . intros;simp[execOp,go_sem,vR ((m2:Int)+((aI ys1:Int)+1)) (by omega)]
           refine so 21 ?_;have hz6:=hb6.size;refine aG ?_ (iM (aI ys2+1) f2 ys2 _ B w6 (by omega) (by omega) (HR2.out.low (hbd4.trans (hb6.mono (by omega))) (by omega)) (by omega)) ?_
           . simp[execOp,resolve,invoke,go_sem]
           rintro e w7 ⟨rfl,hb7⟩;refine⟨_,rfl,?_⟩;refine gS ?_ λhS=>?_
           . exact hS.trans (hb7.mono hS.size)
           refine tk 22 (.int .i64 ((m2:Int)+(aI ys1+1:Nat)+(aI ys2+1:Nat))) hS ?_ λhS=>?_
           . intros;simp[execOp,go_sem,vR ((m2:Int)+((aI ys1:Int)+1)+((aI ys2:Int)+1)) (by omega)]
           refine ta 23 (.int .i64 ((m2:Int)+(aI ys1+1:Nat)+(aI ys2+1:Nat))) hS λhS=>?_
           refine dn ?_;have HS7:=Lh hS;clear hS hwd hbd hb6 hb7 hbd4 hzd hz6;go_wp2_with fail;go_roundw
           case rel=>exact⟨k2+1,m2+(aI ys1+1)+(aI ys2+1),by omega,by go_num,by simp,by omega,Hbel2.out.trans (HS7.out.mono hz2)⟩
           case measure=>simp[intOf];omega
         go_wp2_with fail;go_roundw
         case rel=>exact⟨k+1,m2,by omega,by go_num,rfl,by omega,Hbel.out.trans (Hbel2.out.mono hzr)⟩
         case measure=>simp[intOf];omega
       go_wp2_with fail;go_roundw
       case rel=>exact⟨k+1,m2,by omega,by go_num,rfl,by omega,Hbel.out.trans (Hbel2.out.mono hzr)⟩
       case measure=>simp[intOf];omega
     go_wp2_with fail;all_goals (go_ret;exact⟨_,rfl,Hbel.out⟩)
   go_wp2_with fail;all_goals (go_ret;exact⟨_,rfl,Hbel.out⟩)
 go_wp2_with fail;all_goals (go_ret;exact⟨_,rfl,Hbel.out⟩)
def fP (sig:List Sy):Sg:=⟨λf=>if f<0 then none else(sig[f.toNat]?).map λs=>s.ar.toNat,λf=>((sig[f.toNat]?).map Sy.pr).getD false⟩
def gP (N:Int)(vs:List Int):Int:=vs.foldl (λa v=>a*N+v) 0
def cN (N:Int)(tab:List (List Int)):Itp:=⟨N,λf vs=>((tab[f.toNat]?.getD [])[(gP N vs).toNat]?).getD 0⟩
def dQ (E:List Int)(f:Int):Int:=(E[(-1-f).toNat]?).getD 0
structure RightW (sig:List Sy)(N:Nat)(tab:List (List Int)):Prop where
 n0:1<=N
 n1:N<=100
 len:tab.length=sig.length
 ar:∀k (h:k<sig.length),0<=sig[k].ar/\sig[k].ar<=6
 row:∀k (h:k<sig.length) (h':k<tab.length),tab[k].length=N ^ sig[k].ar.toNat
 vals:∀k (h:k<sig.length) (h':k<tab.length),∀v∈tab[k],0<=v/\v<(if sig[k].pr=true then 2 else(N:Int))
theorem sZ (N:Int)(vs:List Int)(v:Int):gP N (vs++[v])=gP N vs*N+v:=by unfold gP;rw[List.foldl_append];rfl
theorem pG {N:Nat}:∀(n:Nat) (vs:List Int),vs.length=n->(∀v∈vs,0<=v/\v<(N:Int))->0<=gP N vs/\gP N vs<((N ^ vs.length:Nat):Int)
 | 0,vs,h,_=>by
  rw[List.length_eq_zero_iff.1 h];simp[gP]
 | n+1,vs,h,hv=>by
  have hne:vs≠[]:=λe=>by rw[e]at h;simp at h
  have e:=List.dropLast_concat_getLast hne;have h1:=pG n vs.dropLast (by rw[List.length_dropLast];omega) λv hv'=>hv v (List.dropLast_subset _ hv')
  have h2:=hv _ (List.getLast_mem hne);rw[<-e,sZ,List.length_append,List.length_singleton,Nat.pow_succ];generalize gP N vs.dropLast=a at h1 ⊢;generalize N ^ vs.dropLast.length=b at h1 ⊢;generalize vs.getLast hne=v at h2 ⊢;obtain⟨a',rfl⟩:∃a':Nat,a=(a':Int):=⟨a.toNat,by omega⟩;obtain⟨v',rfl⟩:∃v':Nat,v=(v':Int):=⟨v.toNat,by omega⟩;have h3:a'+1<=b:=by omega
  have h4:(a'+1)*N<=b*N:=Nat.mul_le_mul_right _ h3;rw[Nat.add_mul,Nat.one_mul]at h4;constructor
  . have:(0:Int)<=((a'*N:Nat):Int):=(by omega);rw[Int.natCast_mul]at this;omega
  have h5:((a'*N+v':Nat):Int)<((b*N:Nat):Int):=by omega
  simpa using h5
theorem yZ {N:Nat} (hn:N<=100)(hn0:1<=N) {k:Nat} (hk:k<=6):N ^ k<=1000000000000:=
 Nat.le_trans (Nat.pow_le_pow_left hn k) (Nat.le_trans (Nat.pow_le_pow_right (by omega) hk) (by decide))
theorem aJ1 {sig:List Sy} {f:Int} {n:Nat} (hf:¬f<0)(h:(fP sig).ar f=some n):∃hk:f.toNat<sig.length,sig[f.toNat].ar.toNat=n:=by
 have h:(if f<0 then none else(sig[f.toNat]?).map λs=>s.ar.toNat)=some n:=h;rw[if_neg hf]at h;cases e:sig[f.toNat]? with
 | none=>rw[e]at h;cases h
 | some s=>
  rw[e]at h;obtain⟨hk,rfl⟩:=List.getElem?_eq_some_iff.1 e;exact⟨hk,Option.some.inj h⟩
theorem aH3 {sig:List Sy} {N:Nat} {tab:List (List Int)} (hW:RightW sig N tab):ItpOk (fP sig) (cN N tab):=by
 refine⟨λf vs hf hp ha hv=>?_⟩;obtain⟨hk,hn⟩:=aJ1 hf ha;have hkt:f.toNat<tab.length:=by rw[hW.len];exact hk
 obtain⟨h1,h2⟩:=pG vs.length vs rfl (λv hv'=>hv v hv');have hl:=hW.row f.toNat hk hkt;rw[hn]at hl;have hi:(gP (N:Int) vs).toNat<tab[f.toNat].length:=by rw[hl];omega
 have hval:=hW.vals f.toNat hk hkt _ (List.getElem_mem hi);have hp:((sig[f.toNat]?).map Sy.pr).getD false=false:=hp;rw[List.getElem?_eq_getElem hk]at hp;have hp:sig[f.toNat].pr=false:=hp;rw[hp]at hval;show InR _ ((((tab[f.toNat]?).getD [])[(gP (N:Int) vs).toNat]?).getD 0)
 rw[List.getElem?_eq_getElem hkt];show InR _ ((tab[f.toNat][(gP (N:Int) vs).toNat]?).getD 0)
 rw[List.getElem?_eq_getElem hi];exact⟨hval.1,show _<(N:Int)from by simpa using hval.2⟩
theorem aH0 {N:Nat} {tab:List (List Int)} {E:List Int} (h0:1<=N)(hv:∀v∈E,0<=v/\v<(N:Int)):sP (cN N tab) (dQ E):=by
 intro f hf;unfold dQ;cases e:E[(-1-f).toNat]? with
 | none=>exact⟨Int.le_refl _,by show (0:Int)<(N:Int);omega⟩
 | some v=>exact hv v (List.mem_of_getElem? e)
theorem uE (sig:List Sy)(N:Nat)(tab:List (List Int))(E:List Int)(hW:RightW sig N tab)(hE:E.length=48)(hEv:∀v∈E,0<=v/\v<(N:Int))(D:Nat):∀(f:Int) (xs:List Tm) (v2 vt ve:Value) (B:Nat) (w:World),aI xs<D->bQ (fP sig) (.mk f xs)->fM 48 (.mk f xs)=true->
 Rd w B (.sl 2 (aH xs)) v2->Rd w B (iX tab) vt->Rd w B (bM E) ve->B<=w.heap.size->
 Calls Try.prog 39 #[.agg #[.int .i64 (N:Nat),vt],ve,.agg #[.int .i64 f,v2]] w (yD (cG (cN N tab) (dQ E) (.mk f xs)) w):=by
 induction D with
 | zero=>intro f xs v2 vt ve B w h;omega
 | succ D ih=>
 intro f xs v2 vt ve B w hD hfit hlow hr hrt hre hB;obtain⟨A,c,rfl,hc,hn,hm⟩:=hr.tm_form;obtain⟨At,ct,rfl,-,-,-⟩:=Rd.row_form (show Rd w B (.sl 1 (tab.map λr=>[bM r])) vt from hrt);obtain⟨Ae,ce,rfl,-,-,-⟩:=Rd.row_form (show Rd w B (.sl 1 (E.map λn=>[.leaf (.int .i64 n)])) ve from hre);have H3:=Lh hr;have HT:=Lh hrt;have HE:=Lh hre;have Hih:=Lh ih;rw[hE]at HE;clear hr hrt hre ih;by_cases hf:f<0
 . rw[fM,if_pos hf]at hlow;simp only[Bool.and_eq_true,decide_eq_true_eq]at hlow;have hv:cG (cN N tab) (dQ E) (.mk f xs)=dQ E f:=by rw[cG,if_pos hf]
   rw[hv];obtain⟨j,rfl⟩:∃j:Nat,f= -1-(j:Int):=⟨(-1-f).toNat,by omega⟩;have hjl:j<E.length:=by omega
   obtain⟨ab,off,rfl,hab,c0⟩:=Rd.leaf_at (f:=λn=>.int .i64 n) (show Rd w B (.sl 1 (E.map λn=>[.leaf (.int .i64 n)])) _ from HE.out) hjl;have hev:dQ E (-1-(j:Int))=E[j]:=by
    unfold dQ;rw[show (-1-(-1-(j:Int))).toNat=j by omega,List.getElem?_eq_getElem hjl];rfl
   rw[hev];obtain⟨ev,hev2⟩:∃ev,E[j]=ev:=⟨_,rfl⟩;rw[hev2]at c0 ⊢;have c0:w.cell? ⟨ab,off+j,none⟩=some (.int .i64 ev):=c0;have hjj: -1-(-1-(j:Int))=(j:Int):=by omega
   have hb2:¬((48:Int)<=(j:Int)):=by omega
   have hb3:(j:Int)<48:=by omega
   have hf': -1-(j:Int)<0:=hf;clear hev hev2 hv hjl;generalize hfj: -1-(j:Int)=f at*;clear hlow hfit hfj hf';go_enter Try.func39,Try.ntmps39;go_upto_region 1 with fail
   obtain⟨hx1,hx2,hB2,hz2⟩:=aO w (.cells #[.int .i64 (N:Nat),.slice At tab.length ct] 27) (.cells #[.int .i64 f,.slice A xs.length c] 51);have hx1:aL w.heap.size 27 (.int .i64 (N:Nat)) (.slice At tab.length ct) _:=hx1;have hx2:aL (w.heap.size+1) 51 (.int .i64 f) (.slice A xs.length c) _:=hx2;generalize (w.alloc (.cells #[.int .i64 (N:Nat),.slice At tab.length ct] 27)).alloc (.cells #[.int .i64 f,.slice A xs.length c] 51)=w1 at hx1 hx2 hB2 hz2 ⊢;have HX1:=Lh hx1;have HX2:=Lh hx2;have HB2:=Lh hB2;obtain⟨x10,x11,-⟩:=hx1.cells;obtain⟨x20,x21,-⟩:=hx2.cells;clear hx1 hx2 hB2;have c1:=(HB2.out.cell (p:=⟨ab,off+j,none⟩) (show ab<w.heap.size by omega)).trans c0;go_wp2_with fail;go_ret;exact⟨rfl,HB2.out⟩
 have hv0:cG (cN N tab) (dQ E) (.mk f xs)=((tab[f.toNat]?.getD [])[(gP N (cO (cN N tab) (dQ E) xs)).toNat]?).getD 0:=by rw[cG,if_neg hf];rfl
 rw[hv0];clear hv0;rw[fM,if_neg hf,kP,List.all_eq_true]at hlow;rw[bQ]at hfit;obtain⟨hk,har⟩:=aJ1 hf (hfit.2.1 hf);have hkt:f.toNat<tab.length:=by rw[hW.len];exact hk
 have ha6:=hW.ar f.toNat hk;have hx6:xs.length<=6:=by omega
 have hargs:=mP (fP sig) hfit.2.2;have hvin:=vN (aH3 hW) (aH0 (tab:=tab) hW.n0 hEv) xs hfit.2.2;obtain⟨vs,hvs⟩:∃vs,cO (cN N tab) (dQ E) xs=vs:=⟨_,rfl⟩;have hvl:vs.length=xs.length:=by rw[<-hvs,gJ,List.length_map]
 have hvat:∀k (h:k<xs.length) (h':k<vs.length),vs[k]=cG (cN N tab) (dQ E) xs[k]:=λk h h'=>by simp only[<-hvs,gJ,List.getElem_map]
 rw[hvs]at hvin ⊢;have hvin:∀v∈vs,0<=v/\v<(N:Int):=hvin;have hrow:=hW.row f.toNat hk hkt;rw[har]at hrow;obtain⟨h1,h2⟩:=pG vs.length vs rfl hvin;rw[hvl]at h2;have hpos:(gP N vs).toNat<tab[f.toNat].length:=by rw[hrow];omega
 rw[List.getElem?_eq_getElem hkt];have hres:(((some tab[f.toNat]).getD [])[(gP N vs).toNat]?).getD 0=tab[f.toNat][(gP N vs).toNat]:=by
  show (tab[f.toNat][(gP N vs).toNat]?).getD 0=_
  rw[List.getElem?_eq_getElem hpos];rfl
 rw[hres];obtain⟨rv,hrv⟩:∃rv,tab[f.toNat][(gP N vs).toNat]=rv:=⟨_,rfl⟩;rw[hrv];have Hargs:=Lh hargs;have Hlow:=Lh hlow;have Hvat:=Lh hvat;have Hvin:=Lh hvin;have hn1:=hW.n1;have hn0:=hW.n0;clear hargs hlow hvat hvin hfit hvs hres har hrow;go_enter Try.func39,Try.ntmps39;go_upto_region 1 with fail
 obtain⟨hx1,hx2,hB2,hz2⟩:=aO w (.cells #[.int .i64 (N:Nat),.slice At tab.length ct] 27) (.cells #[.int .i64 f,.slice A xs.length c] 51);have hx1:aL w.heap.size 27 (.int .i64 (N:Nat)) (.slice At tab.length ct) _:=hx1;have hx2:aL (w.heap.size+1) 51 (.int .i64 f) (.slice A xs.length c) _:=hx2;generalize (w.alloc (.cells #[.int .i64 (N:Nat),.slice At tab.length ct] 27)).alloc (.cells #[.int .i64 f,.slice A xs.length c] 51)=w1 at hx1 hx2 hB2 hz2 ⊢;have HX1:=Lh hx1;have HX2:=Lh hx2;have HB2:=Lh hB2;obtain⟨x10,x11,-⟩:=hx1.cells;obtain⟨x20,x21,-⟩:=hx2.cells;clear hx1 hx2 hB2;go_upto_region 5 with fail
 go_loopw [7,8] (λa i wr=>∃k:Nat,k<=xs.length/\i=.int .i64 k/\a=.int .i64 (gP N (vs.take k))/\Below w1.heap.size w1 wr) (λ_ i _=>xs.length-(intOf i).toNat)
 case atStart=>exact⟨0,Nat.zero_le _,rfl,rfl,Below.refl _ _⟩
 obtain⟨k,hk2,rfl,rfl,hbel⟩:=hrel;have hzr:=hbel.size;have Hbel:=Lh hbel;have hlow2:Below w.heap.size w wr:=HB2.out.trans (hbel.mono (by omega));have Hlow2:=Lh hlow2;obtain⟨x10,x11,-⟩:=(HX1.out.low hbel).cells;obtain⟨x20,x21,-⟩:=(HX2.out.low hbel).cells;clear hbel hlow2;by_cases hlt:k<xs.length
 . obtain⟨ab,off,f',ys,A2,c2,rfl,hxk,hab,k0,k1,hrd⟩:=(H3.out.low Hlow2.out hB).tm_at hlt;have hs1:=aZ hlt;obtain⟨hf1,-⟩:=Hargs.out xs[k] (List.getElem_mem hlt);have hl1:=Hlow.out xs[k] (List.getElem_mem hlt);have hvk:=Hvat.out k hlt (by omega);rw[hxk]at hs1 hf1 hl1 hvk;simp only[aK]at hs1;have hkv:k<vs.length:=by omega
   have hvr:=Hvin.out vs[k] (List.getElem_mem hkv);have hsnoc:gP N (vs.take (k+1))=gP N (vs.take k)*N+vs[k]:=by rw[List.take_succ_eq_append_getElem hkv,sZ]
   obtain⟨g1,g2⟩:=pG (vs.take k).length (vs.take k) rfl (λv hv=>Hvin.out v (List.mem_of_mem_take hv));have hpw:=yZ hn1 hn0 (k:=(vs.take k).length) (by rw[List.length_take];omega);generalize gP N (vs.take k)=a at hsnoc g1 g2 ⊢;obtain⟨v,hv⟩:∃v,vs[k]=v:=⟨_,rfl⟩;rw[hv]at hsnoc hvr hvk;have ham:0<=a*(N:Int)/\a*(N:Int)<=100000000000000:=by
    obtain⟨b,rfl⟩:∃b:Nat,a=(b:Int):=⟨a.toNat,by omega⟩;have h1:b<=1000000000000:=(by omega);have h2:b*N<=1000000000000*100:=Nat.mul_le_mul h1 hn1;have h3:((b*N:Nat):Int)=(b:Int)*(N:Int):=Int.natCast_mul b N;omega
   have hcl:=fun(w':World) (hb:Below wr.heap.size wr w')=>Hih.out f' ys (.slice A2 ys.length c2) (.slice At tab.length ct) (.slice Ae 48 ce) B w' (by omega) hf1 hl1 (hrd.low hb (by have:=Hlow2.out.size;omega)) (HT.out.low (Hlow2.out.trans (hb.mono Hlow2.out.size)) hB) (HE.out.low (Hlow2.out.trans (hb.mono Hlow2.out.size)) hB) (by have:=Hlow2.out.size;have:=hb.size;omega)
   rw[<-hvk]at hcl;have Hcl:=Lh hcl;have Hsn:=Lh hsnoc;have K0:=Lh k0;have K1:=Lh k1;have hzl:=Hlow2.out.size;have hkk:¬((xs.length:Int)<=(k:Int)):=by omega
   clear hxk hf1 hl1 hvk hsnoc hcl hv k0 k1 hrd;go_upto_region 7 with fail
   clear x10 x11 x20 x21;refine rg 14 (λ_ w'=>Below wr.heap.size wr w') ?_;intro wd hwd hbd;refine⟨?_,λhS=>?_⟩
   . exact hwd ▸ hbd
   refine ta 0 (.int .i64 a) hS λhS=>?_
   refine ta 1 (.pointer (some ⟨w.heap.size,0,none⟩)) hS λhS=>?_
   refine tk 2 (.int .i64 (N:Nat)) hS ?_ λhS=>?_
   . intro w' L hn hw;have o1:=((HX1.out.low Hbel.out).low hw).cells;simp[execOp,go_sem,o1.1]
   refine tk 3 (.int .i64 (a*(N:Int))) hS ?_ λhS=>?_
   . intros;simp[execOp,go_sem,vR (a*(N:Int)) (by omega)]
   refine tk 4 (.agg #[.int .i64 (N:Nat),.slice At tab.length ct]) hS ?_ λhS=>?_
   . intro w' L hn hw;have o1:=((HX1.out.low Hbel.out).low hw).cells;simp[execOp,go_sem,o1.1,o1.2.1]
   refine ta 5 (.slice Ae 48 ce) hS λhS=>?_
   refine ta 6 (.pointer (some ⟨w.heap.size+1,1,none⟩)) hS λhS=>?_
   refine tk 7 (.slice (some ⟨ab,off,none⟩) xs.length c) hS ?_ λhS=>?_
   . intro w' L hn hw;have o2:=((HX2.out.low Hbel.out).low hw).cells;simp[execOp,go_sem,o2.2.1]
   refine ta 8 (.int .i64 (k:Nat)) hS λhS=>?_
   refine tk 9 (.pointer (some ⟨ab,off+k*2,none⟩)) hS ?_ λhS=>?_
   . intros;simp[execOp,go_sem,hlt,hkk]
   refine tk 10 (.agg #[.int .i64 f',.slice A2 ys.length c2]) hS ?_ λhS=>?_
   . intro w' L hn hw;have q0:=(hw.cell (p:=⟨ab,off+k*2,none⟩) (show ab<wr.heap.size by omega)).trans K0.out;have q1:=(hw.cell (p:=⟨ab,off+k*2+1,none⟩) (show ab<wr.heap.size by omega)).trans K1.out;simp[execOp,go_sem,q0,q1]
   refine so 11 ?_;have hbd4:Below wr.heap.size wr wd:=hwd ▸ hbd;refine aG ?_ (Hcl.out wd hbd4) ?_
   . simp[execOp,resolve,invoke,go_sem]
   rintro e w6 ⟨rfl,hb6⟩;refine⟨_,rfl,?_⟩;refine gS ?_ λhS=>?_
   . exact hS.trans (hb6.mono hS.size)
   refine tk 12 (.int .i64 (a*(N:Int)+v)) hS ?_ λhS=>?_
   . intros;simp[execOp,go_sem,vR (a*(N:Int)+v) (by omega)]
   refine ta 13 (.int .i64 (a*(N:Int)+v)) hS λhS=>?_
   refine dn ?_;have HS:=Lh hS;clear hS hwd hbd hb6 hbd4;go_wp2_with fail;go_roundw
   case rel=>exact⟨k+1,by omega,by go_num,by rw[Hsn.out],Hbel.out.trans (HS.out.mono hzr)⟩
   case measure=>simp[intOf];omega
 have htk:vs.take k=vs:=List.take_of_length_le (by omega);rw[htk];obtain⟨tb,tbo,R2,r2,rfl,htb,t0,hrr⟩:=(HT.out.low Hlow2.out hB).tab_at hkt;have hpl:(gP N vs).toNat<tab[f.toNat].length:=hpos;obtain⟨rb,ro,rfl,hrb,t1⟩:=Rd.leaf_at (f:=λn=>.int .i64 n) (show Rd wr B (.sl 1 (tab[f.toNat].map λn=>[.leaf (.int .i64 n)])) _ from hrr) hpl;obtain⟨row,hrow⟩:∃row,tab[f.toNat]=row:=⟨_,rfl⟩;rw[hrv]at t1;clear hrv;simp only[hrow]at t0 hpl;obtain⟨a,ha⟩:∃a,gP N vs=a:=⟨_,rfl⟩;simp only[ha]at t1 hpl h1 ⊢;have t1:wr.cell? ⟨rb,ro+a.toNat,none⟩=some (.int .i64 rv):=t1;have b1:¬((tab.length:Int)<=f):=by omega
 have b2:f<(tab.length:Int):=by omega
 have b3:0<=f:=by omega
 have b4:a<(row.length:Int):=by omega
 have b5:¬((row.length:Int)<=a):=by omega
 have b6:¬(a<0):=by omega
 clear hrr htk ha hrow;go_wp2_with fail;go_ret;exact⟨rfl,Hlow2.out⟩
def prB (sig:List Sy)(f:Int):Bool:=decide (0<=f)&&((sig[f.toNat]?).map Sy.pr).getD false
mutual
def fL (sig:List Sy):Tm->Bool
 | .mk f xs=>if f<0 then decide (-48<=f)&&decide (xs.length=0)else decide ((sig[f.toNat]?).map Sy.ar=some (xs.length:Int))&&lB sig xs
def lB (sig:List Sy):List Tm->Bool
 | []=>true
 | x::xs=>(fL sig x&& !prB sig x.fn)&&lB sig xs
end
theorem sW (sig:List Sy):∀xs:List Tm,lB sig xs=xs.all λx=>fL sig x&& !prB sig x.fn
 | []=>by rw[lB];rfl
 | x::xs=>by rw[lB,sW sig xs];rfl
theorem wL (sig:List Sy)(D:Nat):∀(f:Int) (xs:List Tm) (v2 vs:Value) (B:Nat) (w:World),aI xs<D->Rd w B (.sl 2 (aH xs)) v2->Rd w B (fX sig) vs->B<=w.heap.size->
 Calls Try.prog 55 #[.agg #[vs],.agg #[.int .i64 f,v2]] w (aP (fL sig (.mk f xs)) w):=by
 induction D with
 | zero=>intro f xs v2 vs B w h;omega
 | succ D ih=>
 intro f xs v2 vs B w hD hr hrt hB;obtain⟨A,c,rfl,hc,hn,hm⟩:=hr.tm_form;obtain⟨As,cs,rfl,hsc,hsn,hsm⟩:=Rd.row_form (show Rd w B (.sl 3 (sig.map fZ)) vs from hrt);have H3:=Lh hr;have HT:=Lh hrt;have Hih:=Lh ih;clear hr hrt ih;by_cases hf:f<0
 . have e:fL sig (.mk f xs)=(decide (-48<=f)&&((xs.length:Int)==0)):=by rw[fL,if_pos hf];congr 1;rw[Bool.eq_iff_iff];simp
   rw[e];clear e;by_cases h1: -48<=f
   . have h1':(decide (-48<=f))=true:=(by simp[h1]);rw[h1',Bool.true_and];go_enter Try.func55,Try.ntmps55;go_upto_region 1 with fail
     obtain⟨hx1,hx2,hB2,hz2⟩:=aO w (.cells #[.slice As sig.length cs] 24) (.cells #[.int .i64 f,.slice A xs.length c] 51);have hx1:aU w.heap.size 24 (.slice As sig.length cs) _:=hx1;have hx2:aL (w.heap.size+1) 51 (.int .i64 f) (.slice A xs.length c) _:=hx2;generalize (w.alloc (.cells #[.slice As sig.length cs] 24)).alloc (.cells #[.int .i64 f,.slice A xs.length c] 51)=w1 at hx1 hx2 hB2 hz2 ⊢;have HX1:=Lh hx1;have HX2:=Lh hx2;have HB2:=Lh hB2;have x10:=hx1.cell;obtain⟨x20,x21,-⟩:=hx2.cells;clear hx1 hx2 hB2;go_wp2_with fail;go_ret;exact⟨rfl,HB2.out⟩
   have h1':(decide (-48<=f))=false:=by simp;omega
   rw[h1',Bool.false_and];go_enter Try.func55,Try.ntmps55;go_upto_region 1 with fail
   obtain⟨hx1,hx2,hB2,hz2⟩:=aO w (.cells #[.slice As sig.length cs] 24) (.cells #[.int .i64 f,.slice A xs.length c] 51);have hx1:aU w.heap.size 24 (.slice As sig.length cs) _:=hx1;have hx2:aL (w.heap.size+1) 51 (.int .i64 f) (.slice A xs.length c) _:=hx2;generalize (w.alloc (.cells #[.slice As sig.length cs] 24)).alloc (.cells #[.int .i64 f,.slice A xs.length c] 51)=w1 at hx1 hx2 hB2 hz2 ⊢;have HX1:=Lh hx1;have HX2:=Lh hx2;have HB2:=Lh hB2;have x10:=hx1.cell;obtain⟨x20,x21,-⟩:=hx2.cells;clear hx1 hx2 hB2;go_wp2_with fail;go_ret;exact⟨rfl,HB2.out⟩
 obtain⟨fn,rfl⟩:∃fn:Nat,f=(fn:Int):=⟨f.toNat,by omega⟩;have e:fL sig (.mk (fn:Int) xs)=(decide ((sig[fn]?).map Sy.ar=some (xs.length:Int))&&xs.all λx=>fL sig x&& !prB sig x.fn):=by rw[fL,if_neg hf,sW];rfl
 by_cases hk:fn<sig.length
 . obtain⟨zb,zo,rfl,hsb,-,a0,-⟩:=HT.out.sy_at hk;rw[List.getElem?_eq_getElem hk]at e;obtain⟨ar,har⟩:∃a,sig[fn].ar=a:=⟨_,rfl⟩;rw[har]at a0;have A0:=Lh a0;have b1:¬((sig.length:Int)<=(fn:Int)):=by omega
   have b2:(fn:Int)<(sig.length:Int):=by omega
   have b3:fn<sig.length:=hk;clear a0;by_cases ha:ar=(xs.length:Int)
   . have ee:fL sig (.mk (fn:Int) xs)=(xs.all λx=>fL sig x&& !prB sig x.fn):=(by rw[e];simp[har,ha]);have He:=Lh ee;have ba:(ar==(xs.length:Int))=true:=(by simp[ha]);clear ee har e;go_enter Try.func55,Try.ntmps55;go_upto_region 1 with fail
     obtain⟨hx1,hx2,hB2,hz2⟩:=aO w (.cells #[.slice (some ⟨zb,zo,none⟩) sig.length cs] 24) (.cells #[.int .i64 (fn:Nat),.slice A xs.length c] 51);have hx1:aU w.heap.size 24 (.slice (some ⟨zb,zo,none⟩) sig.length cs) _:=hx1;have hx2:aL (w.heap.size+1) 51 (.int .i64 (fn:Nat)) (.slice A xs.length c) _:=hx2;generalize (w.alloc (.cells #[.slice (some ⟨zb,zo,none⟩) sig.length cs] 24)).alloc (.cells #[.int .i64 (fn:Nat),.slice A xs.length c] 51)=w1 at hx1 hx2 hB2 hz2 ⊢;have HX1:=Lh hx1;have HX2:=Lh hx2;have HB2:=Lh hB2;have x10:=hx1.cell;obtain⟨x20,x21,-⟩:=hx2.cells;clear hx1 hx2 hB2;go_upto_region 3 with fail
     clear x10 x20 x21;refine rg 19 (λ_ w'=>Below w1.heap.size w1 w') ?_;intro wd hwd hbd;refine⟨?_,λhS=>?_⟩
     . exact hwd ▸ hbd
     refine ta 0 (.pointer (some ⟨w.heap.size+1,0,none⟩)) hS λhS=>?_
     refine tk 1 (.int .i64 (fn:Nat)) hS ?_ λhS=>?_
     . intro w' L hn hw;have o2:=(HX2.out.low hw).cells;simp[execOp,go_sem,o2.1]
     refine ta 2 (.pointer (some ⟨w.heap.size,0,none⟩)) hS λhS=>?_
     refine tk 3 (.slice (some ⟨zb,zo,none⟩) sig.length cs) hS ?_ λhS=>?_
     . intro w' L hn hw;have o1:=(HX1.out.low hw).cell;simp[execOp,go_sem,o1]
     refine ta 4 (.int .i64 (sig.length:Nat)) hS λhS=>?_
     refine tk 5 (.bool false) hS ?_ λhS=>?_
     . intros;simp[execOp,go_sem,b1]
     refine ta 6 (.bool false) hS λhS=>?_
     refine ta 7 (.pointer (some ⟨w.heap.size,0,none⟩)) hS λhS=>?_
     refine tk 8 (.slice (some ⟨zb,zo,none⟩) sig.length cs) hS ?_ λhS=>?_
     . intro w' L hn hw;have o1:=(HX1.out.low hw).cell;simp[execOp,go_sem,o1]
     refine ta 9 (.pointer (some ⟨w.heap.size+1,0,none⟩)) hS λhS=>?_
     refine tk 10 (.int .i64 (fn:Nat)) hS ?_ λhS=>?_
     . intro w' L hn hw;have o2:=(HX2.out.low hw).cells;simp[execOp,go_sem,o2.1]
     refine tk 11 (.pointer (some ⟨zb,zo+fn*3,none⟩)) hS ?_ λhS=>?_
     . intros;simp[execOp,go_sem,b1,b2,b3]
     refine ta 12 (.pointer (some ⟨zb,zo+fn*3+1,none⟩)) hS λhS=>?_
     refine tk 13 (.int .i64 ar) hS ?_ λhS=>?_
     . intro w' L hn hw;have oa:=((HB2.out.trans (hw.mono (by omega))).cell (p:=⟨zb,zo+fn*3+1,none⟩) (show zb<w.heap.size by omega)).trans A0.out;simp[execOp,go_sem,oa]
     refine ta 14 (.pointer (some ⟨w.heap.size+1,1,none⟩)) hS λhS=>?_
     refine tk 15 (.slice A xs.length c) hS ?_ λhS=>?_
     . intro w' L hn hw;have o2:=(HX2.out.low hw).cells;simp[execOp,go_sem,o2.2.1]
     refine ta 16 (.int .i64 (xs.length:Nat)) hS λhS=>?_
     refine tk 17 (.bool false) hS ?_ λhS=>?_
     . intros;simp[execOp,go_sem,ha]
     refine ta 18 (.bool false) hS λhS=>?_
     refine dn ?_;have HS:=Lh hS;have hbz:=hS.size;have x10:=(HX1.out.low hS).cell;obtain⟨x20,x21,-⟩:=(HX2.out.low hS).cells;clear hS hwd hbd;go_wp2_with fail;go_loopw [5] (λi wr=>∃k:Nat,k<=xs.length/\i=.int .i64 k/\(∀j (h:j<xs.length),j<k->(fL sig xs[j]&& !prB sig xs[j].fn)=true)/\Below w1.heap.size w1 wr) (λi _=>xs.length-(intOf i).toNat)
     case atStart=>exact⟨0,Nat.zero_le _,rfl,λj _ hj=>by omega,HS.out⟩
     obtain⟨k,hk2,rfl,hall,hbel⟩:=hrel;have hzr:=hbel.size;have Hall:=Lh hall;have Hbel:=Lh hbel;have hlow2:Below w.heap.size w wr:=HB2.out.trans (hbel.mono (by omega));have Hlow2:=Lh hlow2;have x10:=(HX1.out.low hbel).cell;obtain⟨x20,x21,-⟩:=(HX2.out.low hbel).cells;clear hbel hlow2 hall;clear HS;by_cases hlt:k<xs.length
     . obtain⟨ab,off,f',ys,A2,c2,rfl,hxk,hab,k0,k1,hrd⟩:=(H3.out.low Hlow2.out hB).tm_at hlt;have hs1:=aZ hlt;rw[hxk]at hs1;simp only[aK]at hs1;obtain⟨bf,hbf⟩:∃b,fL sig xs[k]=b:=⟨_,rfl⟩;have hxf:xs[k].fn=f':=(by rw[hxk];rfl);have hcl:=fun(w':World) (hb:Below wr.heap.size wr w')=>Hih.out f' ys (.slice A2 ys.length c2) (.slice (some ⟨zb,zo,none⟩) sig.length cs) B w' (by omega) (hrd.low hb (by have:=Hlow2.out.size;omega)) (HT.out.low (Hlow2.out.trans (hb.mono Hlow2.out.size)) hB) (by have:=Hlow2.out.size;have:=hb.size;omega)
       rw[<-hxk,hbf]at hcl;have Hcl:=Lh hcl;have K0:=Lh k0;have K1:=Lh k1;have Hxf:=Lh hxf;have Hbf:=Lh hbf;have Hxk:=Lh hxk;have hzl:=Hlow2.out.size;have hkk:¬((xs.length:Int)<=(k:Int)):=(by omega);clear hxk hcl k0 k1 hrd hxf hbf;cases bf with
       | false=>
        go_upto_region 8 with fail
        clear x10 x20 x21;refine rg 8 (λ_ w'=>Below wr.heap.size wr w') ?_;intro wd hwd hbd;refine⟨?_,λhS=>?_⟩
        . exact hwd ▸ hbd
        refine tk 0 (.agg #[.slice (some ⟨zb,zo,none⟩) sig.length cs]) hS ?_ λhS=>?_
        . intro w' L hn hw;have o1:=((HX1.out.low Hbel.out).low hw).cell;simp[execOp,go_sem,o1]
        refine ta 1 (.pointer (some ⟨w.heap.size+1,1,none⟩)) hS λhS=>?_
        refine tk 2 (.slice (some ⟨ab,off,none⟩) xs.length c) hS ?_ λhS=>?_
        . intro w' L hn hw;have o2:=((HX2.out.low Hbel.out).low hw).cells;simp[execOp,go_sem,o2.2.1]
        refine ta 3 (.int .i64 (k:Nat)) hS λhS=>?_
        refine tk 4 (.pointer (some ⟨ab,off+k*2,none⟩)) hS ?_ λhS=>?_
        . intros;simp[execOp,go_sem,hlt,hkk]
        refine tk 5 (.agg #[.int .i64 f',.slice A2 ys.length c2]) hS ?_ λhS=>?_
        . intro w' L hn hw;have q0:=(hw.cell (p:=⟨ab,off+k*2,none⟩) (show ab<wr.heap.size by omega)).trans K0.out;have q1:=(hw.cell (p:=⟨ab,off+k*2+1,none⟩) (show ab<wr.heap.size by omega)).trans K1.out;simp[execOp,go_sem,q0,q1]
        refine so 6 ?_;have hbd4:Below wr.heap.size wr wd:=hwd ▸ hbd;refine aG ?_ (Hcl.out wd hbd4) ?_
        . simp[execOp,resolve,invoke,go_sem]
        rintro e w6 ⟨rfl,hb6⟩;refine⟨_,rfl,?_⟩;refine gS ?_ λhS=>?_
        . exact hS.trans (hb6.mono hS.size)
        refine ta 7 (.bool true) hS λhS=>?_
        refine dn ?_;have HS:=Lh hS;have hbz:=hS.size;clear hS hwd hbd hb6 hbd4;go_wp2_with fail;go_ret;have ha:(xs.all λx=>fL sig x&& !prB sig x.fn)=false:=List.all_eq_false.2 ⟨_,List.getElem_mem hlt,by rw[Hbf.out];simp⟩;rw[He.out,ha];exact⟨rfl,Hlow2.out.trans (HS.out.mono Hlow2.out.size)⟩
       | true=>
        by_cases hg:f'<0
        . have hpr:prB sig xs[k].fn=false:=(by rw[Hxf.out];unfold prB;simp;omega);have Hpr:=Lh hpr;have c6:decide (0<=f')=false:=(by simp;omega);have bp:=false;have gn:=0;clear hpr;go_upto_region 8 with fail
          clear x10 x20 x21;refine rg 8 (λ_ w'=>Below wr.heap.size wr w') ?_;intro wd hwd hbd;refine⟨?_,λhS=>?_⟩
          . exact hwd ▸ hbd
          refine tk 0 (.agg #[.slice (some ⟨zb,zo,none⟩) sig.length cs]) hS ?_ λhS=>?_
          . intro w' L hn hw;have o1:=((HX1.out.low Hbel.out).low hw).cell;simp[execOp,go_sem,o1]
          refine ta 1 (.pointer (some ⟨w.heap.size+1,1,none⟩)) hS λhS=>?_
          refine tk 2 (.slice (some ⟨ab,off,none⟩) xs.length c) hS ?_ λhS=>?_
          . intro w' L hn hw;have o2:=((HX2.out.low Hbel.out).low hw).cells;simp[execOp,go_sem,o2.2.1]
          refine ta 3 (.int .i64 (k:Nat)) hS λhS=>?_
          refine tk 4 (.pointer (some ⟨ab,off+k*2,none⟩)) hS ?_ λhS=>?_
          . intros;simp[execOp,go_sem,hlt,hkk]
          refine tk 5 (.agg #[.int .i64 f',.slice A2 ys.length c2]) hS ?_ λhS=>?_
          . intro w' L hn hw;have q0:=(hw.cell (p:=⟨ab,off+k*2,none⟩) (show ab<wr.heap.size by omega)).trans K0.out;have q1:=(hw.cell (p:=⟨ab,off+k*2+1,none⟩) (show ab<wr.heap.size by omega)).trans K1.out;simp[execOp,go_sem,q0,q1]
          refine so 6 ?_;have hbd4:Below wr.heap.size wr wd:=hwd ▸ hbd;refine aG ?_ (Hcl.out wd hbd4) ?_
          . simp[execOp,resolve,invoke,go_sem]
          rintro e w6 ⟨rfl,hb6⟩;refine⟨_,rfl,?_⟩;refine gS ?_ λhS=>?_
          . exact hS.trans (hb6.mono hS.size)
          refine ta 7 (.bool false) hS λhS=>?_
          refine dn ?_;have HS:=Lh hS;have hbz:=hS.size;clear hS hwd hbd hb6 hbd4;go_upto_region 10 with fail
          refine rg 20 (λ_ w'=>Below w6.heap.size w6 w') ?_;intro wd hwd hbd;refine⟨?_,λhS=>?_⟩
          . exact hwd ▸ hbd
          refine ta 0 (.pointer (some ⟨w.heap.size+1,1,none⟩)) hS λhS=>?_
          refine tk 1 (.slice (some ⟨ab,off,none⟩) xs.length c) hS ?_ λhS=>?_
          . intro w' L hn hw;have o2:=((HX2.out.low Hbel.out).low (HS.out.trans (hw.mono hbz))).cells;simp[execOp,go_sem,o2.2.1]
          refine ta 2 (.int .i64 (k:Nat)) hS λhS=>?_
          refine tk 3 (.pointer (some ⟨ab,off+k*2,none⟩)) hS ?_ λhS=>?_
          . intros;simp[execOp,go_sem,hlt,hkk]
          refine ta 4 (.pointer (some ⟨ab,off+k*2,none⟩)) hS λhS=>?_
          refine tk 5 (.int .i64 f') hS ?_ λhS=>?_
          . intro w' L hn hw;have q0:=((HS.out.trans (hw.mono hbz)).cell (p:=⟨ab,off+k*2,none⟩) (show ab<wr.heap.size by omega)).trans K0.out;simp[execOp,go_sem,q0]
          refine tk 6 (.bool false) hS ?_ λhS=>?_
          . intros;simp[execOp,go_sem,c6]
          refine ta 7 (.bool false) hS λhS=>?_
          refine sk 8 hS λhS=>?_
          refine sk 9 hS λhS=>?_
          refine sk 10 hS λhS=>?_
          refine sk 11 hS λhS=>?_
          refine sk 12 hS λhS=>?_
          refine sk 13 hS λhS=>?_
          refine sk 14 hS λhS=>?_
          refine sk 15 hS λhS=>?_
          refine sk 16 hS λhS=>?_
          refine sk 17 hS λhS=>?_
          refine sk 18 hS λhS=>?_
          refine ta 19 (.bool false) hS λhS=>?_
          refine dn ?_;have HS2:=Lh hS;have hbz2:=hS.size;clear hS hwd hbd;go_wp2_with fail;go_roundw
          case rel=>
           refine⟨k+1,by omega,by go_num,λj hj hjk=>?_,Hbel.out.trans ((HS.out.trans (HS2.out.mono hbz)).mono hzr)⟩;by_cases e:j=k
           . subst e;rw[Hbf.out,Hpr.out];rfl
           exact Hall.out j hj (by omega)
          case measure=>simp[intOf];omega
        obtain⟨gn,rfl⟩:∃gn:Nat,f'=(gn:Int):=⟨f'.toNat,by omega⟩;have hgs:gn<sig.length:=by
         have h1:=Hbf.out;rw[Hxk.out,fL,if_neg hg,Bool.and_eq_true,decide_eq_true_eq]at h1;have h2:=h1.1;cases e:sig[(gn:Int).toNat]? with
         | none=>rw[e]at h2;cases h2
         | some s=>simpa using(List.getElem?_eq_some_iff.1 e).1
        obtain⟨bp,hbp⟩:∃b,sig[gn].pr=b:=⟨_,rfl⟩;obtain⟨zb',zo',hss,hzb',-,-,g0⟩:=(HT.out.low Hlow2.out hB).sy_at hgs;obtain⟨rfl,rfl⟩:zb=zb'/\zo=zo':=by cases hss;exact⟨rfl,rfl⟩
        rw[hbp]at g0;have hpr:prB sig xs[k].fn=bp:=(by rw[Hxf.out];unfold prB;simp[List.getElem?_eq_getElem hgs,hbp]);have Hpr:=Lh hpr;have G0:=Lh g0;have g1:¬((sig.length:Int)<=(gn:Int)):=(by omega);have g2:(gn:Int)<(sig.length:Int):=(by omega);have g3:gn<sig.length:=hgs;have c6:decide (0<=(gn:Int))=true:=(by simp);clear hpr g0 hbp hss;cases bp with
        | true=>
         go_upto_region 8 with fail
         clear x10 x20 x21;refine rg 8 (λ_ w'=>Below wr.heap.size wr w') ?_;intro wd hwd hbd;refine⟨?_,λhS=>?_⟩
         . exact hwd ▸ hbd
         refine tk 0 (.agg #[.slice (some ⟨zb,zo,none⟩) sig.length cs]) hS ?_ λhS=>?_
         . intro w' L hn hw;have o1:=((HX1.out.low Hbel.out).low hw).cell;simp[execOp,go_sem,o1]
         refine ta 1 (.pointer (some ⟨w.heap.size+1,1,none⟩)) hS λhS=>?_
         refine tk 2 (.slice (some ⟨ab,off,none⟩) xs.length c) hS ?_ λhS=>?_
         . intro w' L hn hw;have o2:=((HX2.out.low Hbel.out).low hw).cells;simp[execOp,go_sem,o2.2.1]
         refine ta 3 (.int .i64 (k:Nat)) hS λhS=>?_
         refine tk 4 (.pointer (some ⟨ab,off+k*2,none⟩)) hS ?_ λhS=>?_
         . intros;simp[execOp,go_sem,hlt,hkk]
         refine tk 5 (.agg #[.int .i64 (gn:Nat),.slice A2 ys.length c2]) hS ?_ λhS=>?_
         . intro w' L hn hw;have q0:=(hw.cell (p:=⟨ab,off+k*2,none⟩) (show ab<wr.heap.size by omega)).trans K0.out;have q1:=(hw.cell (p:=⟨ab,off+k*2+1,none⟩) (show ab<wr.heap.size by omega)).trans K1.out;simp[execOp,go_sem,q0,q1]
         refine so 6 ?_;have hbd4:Below wr.heap.size wr wd:=hwd ▸ hbd;refine aG ?_ (Hcl.out wd hbd4) ?_
         . simp[execOp,resolve,invoke,go_sem]
         rintro e w6 ⟨rfl,hb6⟩;refine⟨_,rfl,?_⟩;refine gS ?_ λhS=>?_
         . exact hS.trans (hb6.mono hS.size)
         refine ta 7 (.bool false) hS λhS=>?_
         refine dn ?_;have HS:=Lh hS;have hbz:=hS.size;clear hS hwd hbd hb6 hbd4;go_upto_region 10 with fail
         refine rg 20 (λ_ w'=>Below w6.heap.size w6 w') ?_;intro wd hwd hbd;refine⟨?_,λhS=>?_⟩
         . exact hwd ▸ hbd
         refine ta 0 (.pointer (some ⟨w.heap.size+1,1,none⟩)) hS λhS=>?_
         refine tk 1 (.slice (some ⟨ab,off,none⟩) xs.length c) hS ?_ λhS=>?_
         . intro w' L hn hw;have o2:=((HX2.out.low Hbel.out).low (HS.out.trans (hw.mono hbz))).cells;simp[execOp,go_sem,o2.2.1]
         refine ta 2 (.int .i64 (k:Nat)) hS λhS=>?_
         refine tk 3 (.pointer (some ⟨ab,off+k*2,none⟩)) hS ?_ λhS=>?_
         . intros;simp[execOp,go_sem,hlt,hkk]
         refine ta 4 (.pointer (some ⟨ab,off+k*2,none⟩)) hS λhS=>?_
         refine tk 5 (.int .i64 (gn:Nat)) hS ?_ λhS=>?_
         . intro w' L hn hw;have q0:=((HS.out.trans (hw.mono hbz)).cell (p:=⟨ab,off+k*2,none⟩) (show ab<wr.heap.size by omega)).trans K0.out;simp[execOp,go_sem,q0]
         refine tk 6 (.bool true) hS ?_ λhS=>?_
         . intros;simp[execOp,go_sem,c6]
         refine ta 7 (.bool true) hS λhS=>?_
         refine ta 8 (.pointer (some ⟨w.heap.size,0,none⟩)) hS λhS=>?_
         refine tk 9 (.slice (some ⟨zb,zo,none⟩) sig.length cs) hS ?_ λhS=>?_
         . intro w' L hn hw;have o1:=((HX1.out.low Hbel.out).low (HS.out.trans (hw.mono hbz))).cell;simp[execOp,go_sem,o1]
         refine ta 10 (.pointer (some ⟨w.heap.size+1,1,none⟩)) hS λhS=>?_
         refine tk 11 (.slice (some ⟨ab,off,none⟩) xs.length c) hS ?_ λhS=>?_
         . intro w' L hn hw;have o2:=((HX2.out.low Hbel.out).low (HS.out.trans (hw.mono hbz))).cells;simp[execOp,go_sem,o2.2.1]
         refine ta 12 (.int .i64 (k:Nat)) hS λhS=>?_
         refine tk 13 (.pointer (some ⟨ab,off+k*2,none⟩)) hS ?_ λhS=>?_
         . intros;simp[execOp,go_sem,hlt,hkk]
         refine ta 14 (.pointer (some ⟨ab,off+k*2,none⟩)) hS λhS=>?_
         refine tk 15 (.int .i64 (gn:Nat)) hS ?_ λhS=>?_
         . intro w' L hn hw;have q0:=((HS.out.trans (hw.mono hbz)).cell (p:=⟨ab,off+k*2,none⟩) (show ab<wr.heap.size by omega)).trans K0.out;simp[execOp,go_sem,q0]
         refine tk 16 (.pointer (some ⟨zb,zo+gn*3,none⟩)) hS ?_ λhS=>?_
         . intros;simp[execOp,go_sem,g1,g2,g3]
         refine ta 17 (.pointer (some ⟨zb,zo+gn*3+2,none⟩)) hS λhS=>?_
         refine tk 18 (.bool true) hS ?_ λhS=>?_
         . intro w' L hn hw;have op:=((HS.out.trans (hw.mono hbz)).cell (p:=⟨zb,zo+gn*3+2,none⟩) (show zb<wr.heap.size by omega)).trans G0.out;simp[execOp,go_sem,op]
         refine ta 19 (.bool true) hS λhS=>?_
         refine dn ?_;have HS2:=Lh hS;have hbz2:=hS.size;clear hS hwd hbd;go_wp2_with fail;go_ret;have ha:(xs.all λx=>fL sig x&& !prB sig x.fn)=false:=List.all_eq_false.2 ⟨_,List.getElem_mem hlt,by rw[Hbf.out,Hpr.out];simp⟩;rw[He.out,ha];exact⟨rfl,Hlow2.out.trans ((HS.out.trans (HS2.out.mono hbz)).mono Hlow2.out.size)⟩
        | false=>
         go_upto_region 8 with fail
         clear x10 x20 x21;refine rg 8 (λ_ w'=>Below wr.heap.size wr w') ?_;intro wd hwd hbd;refine⟨?_,λhS=>?_⟩
         . exact hwd ▸ hbd
         refine tk 0 (.agg #[.slice (some ⟨zb,zo,none⟩) sig.length cs]) hS ?_ λhS=>?_
         . intro w' L hn hw;have o1:=((HX1.out.low Hbel.out).low hw).cell;simp[execOp,go_sem,o1]
         refine ta 1 (.pointer (some ⟨w.heap.size+1,1,none⟩)) hS λhS=>?_
         refine tk 2 (.slice (some ⟨ab,off,none⟩) xs.length c) hS ?_ λhS=>?_
         . intro w' L hn hw;have o2:=((HX2.out.low Hbel.out).low hw).cells;simp[execOp,go_sem,o2.2.1]
         refine ta 3 (.int .i64 (k:Nat)) hS λhS=>?_
         refine tk 4 (.pointer (some ⟨ab,off+k*2,none⟩)) hS ?_ λhS=>?_
         . intros;simp[execOp,go_sem,hlt,hkk]
         refine tk 5 (.agg #[.int .i64 (gn:Nat),.slice A2 ys.length c2]) hS ?_ λhS=>?_
         . intro w' L hn hw;have q0:=(hw.cell (p:=⟨ab,off+k*2,none⟩) (show ab<wr.heap.size by omega)).trans K0.out;have q1:=(hw.cell (p:=⟨ab,off+k*2+1,none⟩) (show ab<wr.heap.size by omega)).trans K1.out;simp[execOp,go_sem,q0,q1]
         refine so 6 ?_;have hbd4:Below wr.heap.size wr wd:=hwd ▸ hbd;refine aG ?_ (Hcl.out wd hbd4) ?_
         . simp[execOp,resolve,invoke,go_sem]
         rintro e w6 ⟨rfl,hb6⟩;refine⟨_,rfl,?_⟩;refine gS ?_ λhS=>?_
         . exact hS.trans (hb6.mono hS.size)
         refine ta 7 (.bool false) hS λhS=>?_
         refine dn ?_;have HS:=Lh hS;have hbz:=hS.size;clear hS hwd hbd hb6 hbd4;go_upto_region 10 with fail
         refine rg 20 (λ_ w'=>Below w6.heap.size w6 w') ?_;intro wd hwd hbd;refine⟨?_,λhS=>?_⟩
         . exact hwd ▸ hbd
         refine ta 0 (.pointer (some ⟨w.heap.size+1,1,none⟩)) hS λhS=>?_
         refine tk 1 (.slice (some ⟨ab,off,none⟩) xs.length c) hS ?_ λhS=>?_
         . intro w' L hn hw;have o2:=((HX2.out.low Hbel.out).low (HS.out.trans (hw.mono hbz))).cells;simp[execOp,go_sem,o2.2.1]
         refine ta 2 (.int .i64 (k:Nat)) hS λhS=>?_
         refine tk 3 (.pointer (some ⟨ab,off+k*2,none⟩)) hS ?_ λhS=>?_
         . intros;simp[execOp,go_sem,hlt,hkk]
         refine ta 4 (.pointer (some ⟨ab,off+k*2,none⟩)) hS λhS=>?_
         refine tk 5 (.int .i64 (gn:Nat)) hS ?_ λhS=>?_
         . intro w' L hn hw;have q0:=((HS.out.trans (hw.mono hbz)).cell (p:=⟨ab,off+k*2,none⟩) (show ab<wr.heap.size by omega)).trans K0.out;simp[execOp,go_sem,q0]
         refine tk 6 (.bool true) hS ?_ λhS=>?_
         . intros;simp[execOp,go_sem,c6]
         refine ta 7 (.bool true) hS λhS=>?_
         refine ta 8 (.pointer (some ⟨w.heap.size,0,none⟩)) hS λhS=>?_
         refine tk 9 (.slice (some ⟨zb,zo,none⟩) sig.length cs) hS ?_ λhS=>?_
         . intro w' L hn hw;have o1:=((HX1.out.low Hbel.out).low (HS.out.trans (hw.mono hbz))).cell;simp[execOp,go_sem,o1]
         refine ta 10 (.pointer (some ⟨w.heap.size+1,1,none⟩)) hS λhS=>?_
         refine tk 11 (.slice (some ⟨ab,off,none⟩) xs.length c) hS ?_ λhS=>?_
         . intro w' L hn hw;have o2:=((HX2.out.low Hbel.out).low (HS.out.trans (hw.mono hbz))).cells;simp[execOp,go_sem,o2.2.1]
         refine ta 12 (.int .i64 (k:Nat)) hS λhS=>?_
         refine tk 13 (.pointer (some ⟨ab,off+k*2,none⟩)) hS ?_ λhS=>?_
         . intros;simp[execOp,go_sem,hlt,hkk]
         refine ta 14 (.pointer (some ⟨ab,off+k*2,none⟩)) hS λhS=>?_
         refine tk 15 (.int .i64 (gn:Nat)) hS ?_ λhS=>?_
         . intro w' L hn hw;have q0:=((HS.out.trans (hw.mono hbz)).cell (p:=⟨ab,off+k*2,none⟩) (show ab<wr.heap.size by omega)).trans K0.out;simp[execOp,go_sem,q0]
         refine tk 16 (.pointer (some ⟨zb,zo+gn*3,none⟩)) hS ?_ λhS=>?_
         . intros;simp[execOp,go_sem,g1,g2,g3]
         refine ta 17 (.pointer (some ⟨zb,zo+gn*3+2,none⟩)) hS λhS=>?_
         refine tk 18 (.bool false) hS ?_ λhS=>?_
         . intro w' L hn hw;have op:=((HS.out.trans (hw.mono hbz)).cell (p:=⟨zb,zo+gn*3+2,none⟩) (show zb<wr.heap.size by omega)).trans G0.out;simp[execOp,go_sem,op]
         refine ta 19 (.bool false) hS λhS=>?_
         refine dn ?_;have HS2:=Lh hS;have hbz2:=hS.size;clear hS hwd hbd;go_wp2_with fail;go_roundw
         case rel=>
          refine⟨k+1,by omega,by go_num,λj hj hjk=>?_,Hbel.out.trans ((HS.out.trans (HS2.out.mono hbz)).mono hzr)⟩;by_cases e:j=k
          . subst e;rw[Hbf.out,Hpr.out];rfl
          exact Hall.out j hj (by omega)
         case measure=>simp[intOf];omega
     have e:xs.all (λx=>fL sig x&& !prB sig x.fn)=true:=List.all_eq_true.2 λx hx=>by
      obtain⟨j,hj,rfl⟩:=List.mem_iff_getElem.1 hx;exact Hall.out j hj (by omega)
     have E:=Lh e;clear e;go_wp2_with fail;go_ret;rw[He.out,E.out];exact⟨rfl,Hlow2.out⟩
   have ee:fL sig (.mk (fn:Int) xs)=false:=by rw[e];simp[har,ha]
   rw[ee];have ba:(ar==(xs.length:Int))=false:=by simp[ha]
   clear ee har e;go_enter Try.func55,Try.ntmps55;go_upto_region 1 with fail
   obtain⟨hx1,hx2,hB2,hz2⟩:=aO w (.cells #[.slice (some ⟨zb,zo,none⟩) sig.length cs] 24) (.cells #[.int .i64 (fn:Nat),.slice A xs.length c] 51);have hx1:aU w.heap.size 24 (.slice (some ⟨zb,zo,none⟩) sig.length cs) _:=hx1;have hx2:aL (w.heap.size+1) 51 (.int .i64 (fn:Nat)) (.slice A xs.length c) _:=hx2;generalize (w.alloc (.cells #[.slice (some ⟨zb,zo,none⟩) sig.length cs] 24)).alloc (.cells #[.int .i64 (fn:Nat),.slice A xs.length c] 51)=w1 at hx1 hx2 hB2 hz2 ⊢;have HX1:=Lh hx1;have HX2:=Lh hx2;have HB2:=Lh hB2;have x10:=hx1.cell;obtain⟨x20,x21,-⟩:=hx2.cells;clear hx1 hx2 hB2;go_upto_region 3 with fail
   clear x10 x20 x21;refine rg 19 (λ_ w'=>Below w1.heap.size w1 w') ?_;intro wd hwd hbd;refine⟨?_,λhS=>?_⟩
   . exact hwd ▸ hbd
   refine ta 0 (.pointer (some ⟨w.heap.size+1,0,none⟩)) hS λhS=>?_
   refine tk 1 (.int .i64 (fn:Nat)) hS ?_ λhS=>?_
   . intro w' L hn hw;have o2:=(HX2.out.low hw).cells;simp[execOp,go_sem,o2.1]
   refine ta 2 (.pointer (some ⟨w.heap.size,0,none⟩)) hS λhS=>?_
   refine tk 3 (.slice (some ⟨zb,zo,none⟩) sig.length cs) hS ?_ λhS=>?_
   . intro w' L hn hw;have o1:=(HX1.out.low hw).cell;simp[execOp,go_sem,o1]
   refine ta 4 (.int .i64 (sig.length:Nat)) hS λhS=>?_
   refine tk 5 (.bool false) hS ?_ λhS=>?_
   . intros;simp[execOp,go_sem,b1]
   refine ta 6 (.bool false) hS λhS=>?_
   refine ta 7 (.pointer (some ⟨w.heap.size,0,none⟩)) hS λhS=>?_
   refine tk 8 (.slice (some ⟨zb,zo,none⟩) sig.length cs) hS ?_ λhS=>?_
   . intro w' L hn hw;have o1:=(HX1.out.low hw).cell;simp[execOp,go_sem,o1]
   refine ta 9 (.pointer (some ⟨w.heap.size+1,0,none⟩)) hS λhS=>?_
   refine tk 10 (.int .i64 (fn:Nat)) hS ?_ λhS=>?_
   . intro w' L hn hw;have o2:=(HX2.out.low hw).cells;simp[execOp,go_sem,o2.1]
   refine tk 11 (.pointer (some ⟨zb,zo+fn*3,none⟩)) hS ?_ λhS=>?_
   . intros;simp[execOp,go_sem,b1,b2,b3]
   refine ta 12 (.pointer (some ⟨zb,zo+fn*3+1,none⟩)) hS λhS=>?_
   refine tk 13 (.int .i64 ar) hS ?_ λhS=>?_
   . intro w' L hn hw;have oa:=((HB2.out.trans (hw.mono (by omega))).cell (p:=⟨zb,zo+fn*3+1,none⟩) (show zb<w.heap.size by omega)).trans A0.out;simp[execOp,go_sem,oa]
   refine ta 14 (.pointer (some ⟨w.heap.size+1,1,none⟩)) hS λhS=>?_
   refine tk 15 (.slice A xs.length c) hS ?_ λhS=>?_
   . intro w' L hn hw;have o2:=(HX2.out.low hw).cells;simp[execOp,go_sem,o2.2.1]
   refine ta 16 (.int .i64 (xs.length:Nat)) hS λhS=>?_
   refine tk 17 (.bool true) hS ?_ λhS=>?_
   . intros;simp[execOp,go_sem,ha]
   refine ta 18 (.bool true) hS λhS=>?_
   refine dn ?_;have HS:=Lh hS;have hbz:=hS.size;have x10:=(HX1.out.low hS).cell;obtain⟨x20,x21,-⟩:=(HX2.out.low hS).cells;clear hS hwd hbd;go_wp2_with fail;go_ret;exact⟨rfl,HB2.out.trans (HS.out.mono (by omega))⟩
 rw[List.getElem?_eq_none (by omega),show decide ((none:Option Sy).map Sy.ar=some (xs.length:Int))=false from rfl,Bool.false_and]at e;rw[e];have b1:(sig.length:Int)<=(fn:Int):=by omega
 have b2:=b1;have b3:=b1;have zb:=0;have zo:=0;have ar:=(0:Int);have ba:=b1;clear e;go_enter Try.func55,Try.ntmps55;go_upto_region 1 with fail
 obtain⟨hx1,hx2,hB2,hz2⟩:=aO w (.cells #[.slice As sig.length cs] 24) (.cells #[.int .i64 (fn:Nat),.slice A xs.length c] 51);have hx1:aU w.heap.size 24 (.slice As sig.length cs) _:=hx1;have hx2:aL (w.heap.size+1) 51 (.int .i64 (fn:Nat)) (.slice A xs.length c) _:=hx2;generalize (w.alloc (.cells #[.slice As sig.length cs] 24)).alloc (.cells #[.int .i64 (fn:Nat),.slice A xs.length c] 51)=w1 at hx1 hx2 hB2 hz2 ⊢;have HX1:=Lh hx1;have HX2:=Lh hx2;have HB2:=Lh hB2;have x10:=hx1.cell;obtain⟨x20,x21,-⟩:=hx2.cells;clear hx1 hx2 hB2;go_upto_region 3 with fail
 clear x10 x20 x21;refine rg 19 (λ_ w'=>Below w1.heap.size w1 w') ?_;intro wd hwd hbd;refine⟨?_,λhS=>?_⟩
 . exact hwd ▸ hbd
 refine ta 0 (.pointer (some ⟨w.heap.size+1,0,none⟩)) hS λhS=>?_
 refine tk 1 (.int .i64 (fn:Nat)) hS ?_ λhS=>?_
 . intro w' L hn hw;have o2:=(HX2.out.low hw).cells;simp[execOp,go_sem,o2.1]
 refine ta 2 (.pointer (some ⟨w.heap.size,0,none⟩)) hS λhS=>?_
 refine tk 3 (.slice As sig.length cs) hS ?_ λhS=>?_
 . intro w' L hn hw;have o1:=(HX1.out.low hw).cell;simp[execOp,go_sem,o1]
 refine ta 4 (.int .i64 (sig.length:Nat)) hS λhS=>?_
 refine tk 5 (.bool true) hS ?_ λhS=>?_
 . intros;simp[execOp,go_sem,b1]
 refine ta 6 (.bool true) hS λhS=>?_
 refine sk 7 hS λhS=>?_
 refine sk 8 hS λhS=>?_
 refine sk 9 hS λhS=>?_
 refine sk 10 hS λhS=>?_
 refine sk 11 hS λhS=>?_
 refine sk 12 hS λhS=>?_
 refine sk 13 hS λhS=>?_
 refine sk 14 hS λhS=>?_
 refine sk 15 hS λhS=>?_
 refine sk 16 hS λhS=>?_
 refine sk 17 hS λhS=>?_
 refine ta 18 (.bool true) hS λhS=>?_
 refine dn ?_;have HS:=Lh hS;have hbz:=hS.size;have x10:=(HX1.out.low hS).cell;obtain⟨x20,x21,-⟩:=(HX2.out.low hS).cells;clear hS hwd hbd;go_wp2_with fail;go_ret;exact⟨rfl,HB2.out.trans (HS.out.mono (by omega))⟩
theorem zK {I:Itp} {s:Sp} {c d:Cl} (hc:eH I c)(h:mA s c=some d):eH I d:=by
 unfold mA at h;split at h
 . rename_i hb
   obtain rfl:=Option.some.inj h;intro env he;refine gY (hc env he) λy hy=>?_
   by_cases hh:cV I env y
   . refine .inr ?_;obtain⟨k,hk,hk2⟩:=List.any_eq_true.1 hb;have hk:=List.mem_range.1 hk;unfold jK at hk2;rw[hy]at hk2;cases hz:c[k]? with
     | none=>rw[hz]at hk2;cases hk2
     | some z=>
      rw[hz]at hk2;obtain⟨hkl,rfl⟩:=List.getElem?_eq_some_iff.1 hz;exact⟨c[k],List.mem_eraseIdx_iff_getElem.2 ⟨k,hkl,by omega,rfl⟩,(vW hk2).2 hh⟩
   exact .inl hh
 cases h
structure SgOk (g:Sg):Prop where
 pr:g.pr 0=true
 ar:g.ar 0=some 0
structure PropL (g:Sg)(x:Lt):Prop where
 l:bQ g x.l
 r:bQ g x.r
 np:g.np x.l.fn↔g.np x.r.fn
 at_:¬g.np x.l.fn->x.r=.mk 0 []
def cI (g:Sg)(c:Cl):Prop:=∀x∈c,PropL g x
def tr (t:Tm):Bool:=bJ t.fn t.args.length
theorem kF (t:Tm):tr t=true↔t=.mk 0 []:=by
 cases t with
 | mk f xs=>
  unfold tr bJ;constructor
  . intro h;rw[Bool.and_eq_true]at h;have h1:f=0:=of_decide_eq_true h.1;have h2:xs.length=0:=of_decide_eq_true h.2;rw[h1,List.length_eq_zero_iff.1 h2]
  intro h;cases h;rfl
theorem xR {g:Sg} (hg:SgOk g) {t:Tm} (h:tr t=true):¬g.np t.fn:=by
 rw[(kF t).1 h];rintro(h | h)
 . have:(0:Int)<0:=h;omega
 have h:g.pr 0=false:=h;rw[hg.pr]at h;cases h
theorem dK {g:Sg} {x:Lt} (h:PropL g x)(r:Bool):bQ g (aV x r):=by
 unfold aV;cases r
 . exact h.l
 exact h.r
theorem hY {g:Sg} (hg:SgOk g) {x:Lt} (h:PropL g x)(r:Bool)(ha:tr (aV x r)=false):tr (aV x (!r))=true↔¬g.np (aV x r).fn:=by
 cases r with
 | false=>
  show tr x.r=true↔¬g.np x.l.fn
  constructor
  . intro ht e;exact xR hg ht (h.np.1 e)
  intro e;rw[h.at_ e];rfl
 | true=>
  have ha:tr x.r=false:=ha;show tr x.l=true↔¬g.np x.r.fn
  constructor
  . intro ht;have:=h.at_ (xR hg ht);rw[this]at ha;cases ha
  intro e;have:=h.at_ (λk=>e (h.np.1 k));rw[this]at ha;cases ha
theorem kS {I:Itp} {env:Int->Int} {x:Lt} (r:Bool)(hp:x.neg=false):cV I env x↔cG I env (aV x r)=cG I env (aV x (!r)):=by
 unfold cV aV;rw[hp];cases r
 . simp
 simp only[Bool.not_true,if_true];constructor
 . intro h;exact(h.2 trivial).symm
 intro h;exact⟨λ_=>trivial,λ_=>h.symm⟩
theorem yN {g:Sg} {I:Itp} {s:Sp} {c d:Cl} (hg:SgOk g)(hI:ItpOk g I)(hp:cI g c)(hc:eH I c)(h:lO s c=some d):eH I d:=by
 unfold lO at h;cases hx:c[li s 0]? with
 | none=>rw[hx]at h;cases h
 | some x=>
  cases hy:c[li s 1]? with
  | none=>rw[hx,hy]at h;cases h
  | some y=>
   rw[hx,hy]at h;simp only at h;split at h
   . cases h
   rename_i hcond
   simp only[not_or]at hcond;obtain⟨hij,hnx,hny,hta,htu,htv⟩:=hcond;have hnx:x.neg=false:=by simpa using hnx
   have hny:y.neg=false:=by simpa using hny
   have hta:tr (aV x (ri s 0))=false:=by unfold tr;simpa using hta
   have htu:tr (aV y (ri s 1))=false:=by unfold tr;simpa using htu
   have htv:tr (aV x (!ri s 0))=tr (aV y (!ri s 1)):=by unfold tr;simpa using htv
   cases hu:cB (aV x (ri s 0)) (aV y (ri s 1))with
   | none=>rw[hu]at h;cases h
   | some σ=>
    rw[hu]at h;obtain rfl:=Option.some.inj h;have px:=hp x (List.mem_of_getElem? hx);have py:=hp y (List.mem_of_getElem? hy);have hnp:g.np (aV x (ri s 0)).fn↔g.np (aV y (ri s 1)).fn:=by
     have h1:=hY hg px (ri s 0) hta;have h2:=hY hg py (ri s 1) htu;rw[htv]at h1;have h3:=h1.symm.trans h2;constructor
     . intro e;exact Classical.byContradiction λk=>(h3.2 k) e
     intro e;exact Classical.byContradiction λk=>(h3.1 k) e
    obtain⟨hsame,hsub⟩:=gI (dK px _) (dK py _) hnp hu;intro env he;rw[lQ];obtain⟨z,hz,hh⟩:=hc _ (nJ hI hsub he);obtain⟨k,hk,rfl⟩:=List.mem_iff_getElem.1 hz;by_cases e:k=li s 0
    . subst e;rw[List.getElem?_eq_getElem hk]at hx;obtain rfl:=Option.some.inj hx;have h1:=(kS (ri s 0) hnx).1 hh;have h2:cG I (nI I σ env) (aV c[li s 0] (ri s 0))=cG I (nI I σ env) (aV y (ri s 1)):=(by rw[<-eN,<-eN,hsame]);by_cases ev:cG I (nI I σ env) (aV c[li s 0] (!ri s 0))=cG I (nI I σ env) (aV y (!ri s 1))
      . obtain⟨hj,rfl⟩:=List.getElem?_eq_some_iff.1 hy;refine⟨c[li s 1],List.mem_append_left _ (List.mem_eraseIdx_iff_getElem.2 ⟨li s 1,hj,λe=>hij e.symm,rfl⟩),(kS (ri s 1) hny).2 ?_⟩;rw[<-h2,h1,ev]
      refine⟨_,List.mem_append_right _ (List.mem_singleton.2 rfl),?_⟩;unfold cV;exact⟨λe=>absurd e ev,λe=>by cases e⟩
    exact⟨c[k],List.mem_append_left _ (List.mem_eraseIdx_iff_getElem.2 ⟨k,hk,e,rfl⟩),hh⟩
theorem oB {m:Mt} {p t:Tm} {x:Int} {y:Tm} (h:m.get x=some y):(cA m p t).2.get x=some y:=by
 obtain⟨k,hk,-⟩:=hC p m t;rw[hk,Mt.get_append,h]
mutual
theorem tJ:∀(p t:Tm) (m:Mt),(cA m p t).1=true->∀σ:Int->Option Tm,(∀x y,(cA m p t).2.get x=some y->σ x=some y)->cX σ p=t
 | .mk f xs,.mk g ys,m,h,σ,hσ=>by
  rw[cA]at h hσ;rw[cX];by_cases hf:f<0
  . rw[if_pos hf]at h hσ ⊢;cases hm:m.get f with
    | some x=>
     rw[hm]at h hσ;simp only at h hσ;rw[hσ f x hm];exact gR _ _ h
    | none=>
     rw[hm]at h hσ;simp only at h hσ;have:=hσ f (.mk g ys) (by rw[Mt.get_bind hm,if_pos rfl]);rw[this]
  rw[if_neg hf]at h hσ ⊢;by_cases hfg:f=g
  . rw[if_pos hfg]at h hσ;by_cases hl:xs.length=ys.length
    . rw[if_pos hl]at h hσ;rw[hfg,qU xs ys m hl h σ hσ]
    rw[if_neg hl]at h;cases h
  rw[if_neg hfg]at h;cases h
theorem qU:∀(xs ys:List Tm) (m:Mt),xs.length=ys.length->(cJ m xs ys).1=true->∀σ:Int->Option Tm,(∀x y,(cJ m xs ys).2.get x=some y->σ x=some y)->bY σ xs=ys
 | [],[],m,_,_,σ,_=>by rw[bY]
 | [],_::_,m,h,_,_,_=>by simp at h
 | _::_,[],m,h,_,_,_=>by simp at h
 | x::xs,y::ys,m,hl,h,σ,hσ=>by
  rw[cJ]at h hσ;by_cases hb:(cA m x y).1=true
  . rw[if_pos hb]at h hσ;rw[bY,qU xs ys _ (by simpa using hl) h σ hσ,tJ x y m hb σ λa b hab=>hσ a b (qT hab)]
  rw[if_neg hb]at h;cases h
theorem qT {x:Int} {y:Tm}:∀{xs ys:List Tm} {m:Mt},m.get x=some y->(cJ m xs ys).2.get x=some y
 | [],ys,m,h=>by cases ys <;> simpa [cJ]using h
 | _::_,[],m,h=>by simpa [cJ]using h
 | a::xs,b::ys,m,h=>by
  rw[cJ];split
  . exact qT (oB h)
  exact oB h
end
def lL (g:Sg)(m:Mt):Prop:=∀x y,m.get x=some y->bQ g y/\g.np y.fn
mutual
theorem xA (g:Sg):∀(p t:Tm) (m:Mt),lL g m->bQ g t->(g.np p.fn->g.np t.fn)->lL g (cA m p t).2
 | .mk f xs,.mk k ys,m,hm,ht,hn=>by
  rw[cA];by_cases hf:f<0
  . rw[if_pos hf];cases hg:m.get f with
    | some x=>exact hm
    | none=>
     intro x y hxy;simp only at hxy;rw[Mt.get_bind hg]at hxy;split at hxy
     . rw[<-Option.some.inj hxy];exact⟨ht,hn (.inl hf)⟩
     exact hm x y hxy
  rw[if_neg hf];split
  . split
    . rw[bQ]at ht;exact tK g xs ys m hm ht.2.2
    exact hm
  exact hm
theorem tK (g:Sg):∀(xs ys:List Tm) (m:Mt),lL g m->bW g ys->lL g (cJ m xs ys).2
 | [],ys,m,hm,_=>by cases ys <;> simpa [cJ]using hm
 | _::_,[],m,hm,_=>by simpa [cJ]using hm
 | x::xs,y::ys,m,hm,h=>by
  rw[bW]at h;rw[cJ];have h1:=xA g x y m hm h.1.1 (λ_=>h.1.2);split
  . exact tK g xs ys _ h1 h.2
  exact h1
end
theorem iR {m:Mt} {p t:Tm} (h:(bH m p t).1=true):∀σ:Int->Option Tm,(∀x y,(bH m p t).2.get x=some y->σ x=some y)->cX σ p=t:=by
 unfold bH at h ⊢;split at h
 . rename_i hb
   rw[if_pos hb];exact tJ p t m hb
 cases h
theorem iQ {g:Sg} {m:Mt} {p t:Tm} (hm:lL g m)(ht:bQ g t)(hn:g.np p.fn->g.np t.fn):lL g (bH m p t).2:=by
 unfold bH;split
 . exact xA g p t m hm ht hn
 exact hm
theorem iP {m:Mt} {p t:Tm} {x:Int} {y:Tm} (h:m.get x=some y):(bH m p t).2.get x=some y:=by
 unfold bH;split
 . exact oB h
 exact h
/-! ## A clause in variables of its own -/
mutual
theorem xU (I:Itp)(env:Int->Int):∀t:Tm,cG I env (gT t)=cG I (λf=>env (kW f)) t
 | .mk f xs=>by
  rw[gT,cG,cG];by_cases hf:f<0
  . rw[if_pos hf,if_pos (by unfold kW;rw[if_pos hf];omega)]
  have e:kW f=f:=by unfold kW;rw[if_neg hf]
  rw[e,if_neg hf,if_neg hf,tZ I env xs]
theorem tZ (I:Itp)(env:Int->Int):∀xs:List Tm,cO I env (bX xs)=cO I (λf=>env (kW f)) xs
 | []=>by rw[bX,cO,cO]
 | x::xs=>by rw[bX,cO,cO,xU I env x,tZ I env xs]
end
theorem aH7 {I:Itp} {d:Cl} (h:eH I d):eH I (cW d):=by
 intro env he;obtain⟨x,hx,hh⟩:=h (λf=>env (kW f)) λf hf=>he _ (by unfold kW;rw[if_pos hf];omega)
 refine⟨aH6 x,List.mem_map.2 ⟨x,hx,rfl⟩,?_⟩;unfold cV aH6;simp only[xU];exact hh
mutual
theorem vC {g:Sg}:∀t:Tm,bQ g t->bQ g (gT t)
 | .mk f xs,h=>by
  rw[bQ]at h;have hi:kW f<0↔f<0:=by unfold kW;split <;> omega
  rw[gT,bQ];refine⟨λhf=>?_,λhf=>?_,xD xs h.2.2⟩
  . rw[h.1 (hi.1 hf),bX]
  have e:kW f=f:=by unfold kW;rw[if_neg (λk=>hf (hi.2 k))]
  rw[e,dU,List.length_map];exact h.2.1 (λk=>hf (hi.2 k))
theorem xD {g:Sg}:∀xs:List Tm,bW g xs->bW g (bX xs)
 | [],_=>by rw[bX,bW];trivial
 | x::xs,h=>by
  rw[bW]at h;rw[bX,bW];exact⟨⟨vC x h.1.1,(vD x).2 h.1.2⟩,xD xs h.2⟩
theorem vD {g:Sg}:∀t:Tm,g.np (gT t).fn↔g.np t.fn
 | .mk f xs=>by
  rw[gT];show g.np (kW f)↔g.np f
  unfold kW;by_cases hf:f<0
  . rw[if_pos hf];exact⟨λ_=>.inl hf,λ_=>.inl (by omega)⟩
  rw[if_neg hf]
end
theorem xC {g:Sg} {d:Cl} (h:cI g d):cI g (cW d):=by
 intro x hx;obtain⟨y,hy,rfl⟩:=List.mem_map.1 hx;have p:=h y hy;refine⟨vC _ p.l,vC _ p.r,((vD y.l).trans p.np).trans (vD y.r).symm,λhn=>?_⟩;have:=p.at_ (λk=>hn ((vD y.l).2 k));show gT y.r=.mk 0 []
 rw[this];rfl
/-! ## A term at a place -/
theorem aA7 {I:Itp} {env:Int->Int} {t:Tm}:∀(p:List Int) (u w:Tm),atT u p=some w->cG I env w=cG I env t->cG I env (eJ u p t)=cG I env u
 | [],.mk f xs,w,h,he=>by
  rw[atT]at h;obtain rfl:=Option.some.inj h;rw[eJ];exact he.symm
 | i::p,.mk f xs,w,h,he=>by
  rw[atT]at h;split at h
  . rename_i hi
    rw[eJ];cases hx:xs[i.toNat]? with
    | none=>simp[hx]at h
    | some x=>
     rw[hx]at h;simp only at h ⊢;have ih:=aA7 p x w h he;rw[cG,cG];by_cases hf:f<0
     . rw[if_pos hf,if_pos hf]
     rw[if_neg hf,if_neg hf,gJ,gJ,List.map_set,ih];obtain⟨hl,rfl⟩:=List.getElem?_eq_some_iff.1 hx;congr 1
     apply List.ext_getElem?
     intro j;by_cases e:i.toNat=j
     . subst e;rw[List.getElem?_set_self (by simpa using hl),List.getElem?_map,List.getElem?_eq_getElem hl];rfl
     rw[List.getElem?_set_ne e]
  cases h
theorem rD {I:Itp} {env:Int->Int} {d:Cl} {j:Nat} {y:Lt} {r:Bool} {p:List Int} {t w:Tm} (hy:d[j]? =some y)(hw:atT (fF y r) p=some w)(he:cG I env w=cG I env t)(h:eQ I env d):eQ I env (eD d j y r p t):=by
 have hv:=aA7 p _ _ hw he;obtain⟨z,hz,hh⟩:=h;obtain⟨k,hk,rfl⟩:=List.mem_iff_getElem.1 hz;unfold eD;by_cases e:k=j
 . subst e;rw[List.getElem?_eq_getElem hk]at hy;obtain rfl:=Option.some.inj hy;refine⟨_,List.mem_iff_getElem?.2 ⟨k,List.getElem?_set_self hk⟩,?_⟩;unfold cV nG at*;unfold fF at hv ⊢;cases r
   . simp only[Bool.false_eq_true,if_false]at hv ⊢;rw[hv];exact hh
   simp only[if_true]at hv ⊢;rw[hv];exact hh
 exact⟨d[k],List.mem_iff_getElem?.2 ⟨k,by rw[List.getElem?_set_ne (Ne.symm e)];exact List.getElem?_eq_getElem hk⟩,hh⟩
theorem yF {g:Sg}:∀(p:List Int) (u w:Tm),bQ g u->atT u p=some w->bQ g w/\(p≠[]->g.np w.fn)
 | [],.mk f xs,w,hf,h=>by
  rw[atT]at h;obtain rfl:=Option.some.inj h;exact⟨hf,λh=>absurd rfl h⟩
 | i::p,.mk f xs,w,hf,h=>by
  rw[atT]at h;split at h
  . cases hx:xs[i.toNat]? with
    | none=>simp[hx]at h
    | some x=>
     rw[hx]at h;simp only at h;rw[bQ]at hf;obtain⟨h1,h2⟩:=mP g hf.2.2 x (List.mem_of_getElem? hx);obtain⟨h3,h4⟩:=yF p x w h1 h;refine⟨h3,λ_=>?_⟩;by_cases e:p=[]
     . subst e;have h:some x=some w:=(by cases x;rw[atT]at h;exact h);rw[<-Option.some.inj h];exact h2
     exact h4 e
  cases h
theorem aD0 {g:Sg} {I:Itp} {s:Sp} {c d e:Cl} (hg:SgOk g)(hI:ItpOk g I)(pc:cI g c)(pd:cI g d)(hc:eH I c)(hd:eH I d)(h:dR s c d=some e):eH I e:=by
 have pd:=xC pd;have hd:=aH7 hd;unfold dR at h;split at h
 . cases h
 generalize cW d=d at pd hd h;cases hx:c[li s 0]? with
 | none=>rw[hx]at h;cases h
 | some x=>
  cases hy:d[li s 1]? with
  | none=>rw[hx,hy]at h;cases h
  | some y=>
   rw[hx,hy]at h;simp only at h;split at h
   . cases h
   rename_i hneg
   have hneg:x.neg=false:=by simpa using hneg
   unfold jZ at h;cases hp:atT (aV y (ri s 1)) s.pos with
   | none=>rw[hp]at h;cases h
   | some p=>
    rw[hp]at h;simp only at h;split at h
    . cases h
    rename_i hap
    have px:=pc x (List.mem_of_getElem? hx);have py:=pd y (List.mem_of_getElem? hy);have hap2:iV (aV x (ri s 0)) (aV x (!ri s 0)) (aV y (ri s 1)) (aV y (!ri s 1)) s.pos.length=true:=(by simpa using hap);unfold iV at hap2;simp only[Bool.and_eq_true,Bool.not_eq_true',beq_iff_eq]at hap2;obtain⟨⟨ha,hu⟩,ht⟩:=hap2;have ha:tr (aV x (ri s 0))=false:=ha;have hu:tr (aV y (ri s 1))=false:=hu;have ht:tr (aV x (!ri s 0))=(tr (aV y (!ri s 1))&&decide (s.pos.length=0)):=ht;have h1:=hY hg px (ri s 0) ha;have h2:=hY hg py (ri s 1) hu;obtain⟨pf,pn⟩:=yF s.pos _ _ (dK py (ri s 1)) hp;have hnp:g.np (aV x (ri s 0)).fn↔g.np p.fn:=by
     by_cases e:s.pos=[]
     . rw[e]at hp ht;have hpe:aV y (ri s 1)=p:=by
        cases hq:aV y (ri s 1)with
        | mk f xs=>rw[hq,atT]at hp;exact Option.some.inj hp
       rw[<-hpe];simp only[List.length_nil,decide_true,Bool.and_true]at ht;rw[ht]at h1;have h3:=h1.symm.trans h2;constructor
       . intro k;exact Classical.byContradiction λk2=>(h3.2 k2) k
       intro k;exact Classical.byContradiction λk2=>(h3.1 k2) k
     have hl:s.pos.length≠0:=λh=>e (List.length_eq_zero_iff.1 h)
     rw[decide_eq_false hl,Bool.and_false]at ht;exact⟨λ_=>pn e,λ_=>Classical.byContradiction λk=>by have:=h1.2 k;rw[ht]at this;cases this⟩
    have hyT:atT (fF y (ri s 1)) s.pos=some p:=hp;split at h
    . split at h
      . cases h
      cases hun:cB (aV x (ri s 0)) p with
      | none=>rw[hun]at h;cases h
      | some σ=>
       rw[hun]at h;obtain rfl:=Option.some.inj h;obtain⟨hsame,hsub⟩:=gI (dK px _) pf hnp hun;intro env he;rw[lQ];have he2:=nJ hI hsub he;obtain⟨z,hz,hh⟩:=hc _ he2;obtain⟨k,hk,rfl⟩:=List.mem_iff_getElem.1 hz;by_cases ek:k=li s 0
       . subst ek;rw[List.getElem?_eq_getElem hk]at hx;obtain rfl:=Option.some.inj hx;have v1:=(kS (ri s 0) hneg).1 hh;have v2:cG I (nI I σ env) (aV c[li s 0] (ri s 0))=cG I (nI I σ env) p:=(by rw[<-eN,<-eN,hsame]);obtain⟨w,hw,hhw⟩:=rD (t:=aV c[li s 0] (!ri s 0)) hy hyT (by rw[<-v2,v1]) (hd _ he2);exact⟨w,List.mem_append_right _ hw,hhw⟩
       exact⟨c[k],List.mem_append_left _ (List.mem_eraseIdx_iff_getElem.2 ⟨k,hk,ek,rfl⟩),hh⟩
    split at h
    . cases h
    rename_i hlen
    split at h
    . cases h
    rename_i hm
    split at h
    . cases h
    obtain rfl:=Option.some.inj h;have hm:(bH [] (aV x (ri s 0)) p).1=true:=(by simpa using hm);have hput:=iR hm (Mt.get (bH [] (aV x (ri s 0)) p).2) (λ_ _ h=>h);have hok:lL g (bH [] (aV x (ri s 0)) p).2:=iQ (λx y h=>by cases h) pf hnp.1;intro env he;have he2:=nJ (σ:=Mt.get (bH [] (aV x (ri s 0)) p).2) hI hok he;obtain⟨z,hz,hh⟩:=hc _ he2;have hzx:z=x:=by
     have hl1:c.length=1:=(by simpa using hlen);obtain⟨q,rfl⟩:=List.length_eq_one_iff.1 hl1;have e1:=List.mem_singleton.1 hz;have e2:=List.mem_singleton.1 (List.mem_of_getElem? hx);rw[e1,e2]
    subst hzx;have v1:=(kS (ri s 0) hneg).1 hh;rw[<-eN,<-eN,hput]at v1;exact rD hy hyT v1 (hd env he)
def aB1 (m m':Mt):Prop:=∀x y,m.get x=some y->m'.get x=some y
theorem aB1.trans {a b c:Mt} (h:aB1 a b)(k:aB1 b c):aB1 a c:=λx y e=>k x y (h x y e)
def IsL (σ:Int->Option Tm)(x y:Lt):Prop:=x.neg=y.neg/\((cX σ x.l=y.l/\cX σ x.r=y.r)\/(cX σ x.l=y.r/\cX σ x.r=y.l))
theorem tD {I:Itp} {env:Int->Int} {σ:Int->Option Tm} {x y:Lt} (h:IsL σ x y):cV I (nI I σ env) x↔cV I env y:=by
 rw[<-lR];unfold cV aE4;rcases h.2 with⟨h1,h2⟩ | ⟨h1,h2⟩
 . simp only[h1,h2,h.1]
 simp only[h1,h2,h.1];constructor
 . exact λk=>⟨λe=>k.1 e.symm,λe=>(k.2 e).symm⟩
 exact λk=>⟨λe=>k.1 e.symm,λe=>(k.2 e).symm⟩
theorem tY {g:Sg} (hg:SgOk g) {x:Lt} (h:PropL g x):dI x=true↔¬g.np x.l.fn:=by
 have e:dI x=(tr x.l || tr x.r):=rfl;rw[e,Bool.or_eq_true];constructor
 . rintro(k | k)
   . exact xR hg k
   exact λq=>xR hg k (h.np.1 q)
 intro k;exact .inr ((kF _).2 (h.at_ k))
theorem tE {g:Sg} (hg:SgOk g) {m:Mt} {x y:Lt} {turned:Bool} (hm:lL g m)(px:PropL g x)(py:PropL g y)(h:(eL m x y turned).1=true):
 lL g (eL m x y turned).2/\aB1 m (eL m x y turned).2/\∀σ:Int->Option Tm,(∀a b,(eL m x y turned).2.get a=some b->σ a=some b)->IsL σ x y:=by
 unfold eL at h ⊢;by_cases h0:x.neg≠y.neg\/dI x≠dI y
 . rw[if_pos h0]at h;cases h
 rw[if_neg h0]at h ⊢;have hneg:x.neg=y.neg:=Classical.byContradiction λe=>h0 (.inl e)
 have htr:dI x=dI y:=Classical.byContradiction λe=>h0 (.inr e)
 have hnp:g.np x.l.fn↔g.np y.l.fn:=by
  have h2:=tY hg px;have h3:=tY hg py;rw[htr]at h2;have h4:=h2.symm.trans h3;constructor
  . intro k;exact Classical.byContradiction λk2=>(h4.2 k2) k
  intro k;exact Classical.byContradiction λk2=>(h4.1 k2) k
 cases turned with
 | false=>
  simp only[Bool.false_eq_true,if_false]at h ⊢;by_cases h1:(bH m x.l y.l).1=true/\(bH (bH m x.l y.l).2 x.r y.r).1=true
  . rw[if_pos h1];have o1:lL g (bH m x.l y.l).2:=iQ hm py.l hnp.1;have o2:=iQ (p:=x.r) o1 py.r (λk=>py.np.1 (hnp.1 (px.np.2 k)));refine⟨o2,λa b e=>iP (iP e),λσ hσ=>⟨hneg,.inl ⟨?_,?_⟩⟩⟩
    . exact iR h1.1 σ λa b e=>hσ a b (iP e)
    exact iR h1.2 σ hσ
  rw[if_neg h1]at h;cases h
 | true=>
  simp only[if_true]at h ⊢;by_cases h1:(bH m x.l y.r).1=true/\(bH (bH m x.l y.r).2 x.r y.l).1=true
  . rw[if_pos h1];have o1:lL g (bH m x.l y.r).2:=iQ hm py.r (λk=>py.np.1 (hnp.1 k));have o2:=iQ (p:=x.r) o1 py.l (λk=>hnp.1 (px.np.2 k));refine⟨o2,λa b e=>iP (iP e),λσ hσ=>⟨hneg,.inr ⟨?_,?_⟩⟩⟩
    . exact iR h1.1 σ λa b e=>hσ a b (iP e)
    exact iR h1.2 σ hσ
  rw[if_neg h1]at h;cases h
def aF9 (g:Sg)(d:Cl)(rest:List Lt)(used:Nat->Bool)(m:Mt):Prop:=
 ∃m':Mt,lL g m'/\aB1 m m'/\∀x∈rest,∃n y,used n=false/\d[n]? =some y/\IsL m'.get x y
theorem mS {g:Sg} (hg:SgOk g) {d:Cl} (pd:cI g d) {x:Lt} (px:PropL g x) {rest:List Lt} {K:(Nat->Bool)->Nat->Mt->Bool × Nat} (hK:∀u t m,lL g m->(K u t m).1=true->aF9 g d rest u m) {used:Nat->Bool} {m:Mt} (hm:lL g m):
 ∀(ns:List Nat) (t:Nat),(goS d x K used m ns t).1=true->aF9 g d (x::rest) used m
 | [],t,h=>by rw[goS]at h;cases h
 | n::ns,t,h=>by
  rw[goS]at h;split at h
  . exact mS hg pd px hK hm ns t h
  rename_i hu
  split at h
  . cases h
  cases hy:d[n / 2]? with
  | none=>rw[hy]at h;cases h
  | some y=>
   rw[hy]at h;simp only at h;split at h
   . rename_i hl
     split at h
     . rename_i hk
       obtain⟨o1,o2,o3⟩:=tE hg hm px (pd y (List.mem_of_getElem? hy)) hl;obtain⟨m',k1,k2,k3⟩:=hK _ _ _ o1 hk;refine⟨m',k1,o2.trans k2,λz hz=>?_⟩;rcases List.mem_cons.1 hz with rfl | hz
       . exact⟨n / 2,y,by simpa using hu,hy,o3 _ λa b e=>k2 a b e⟩
       obtain⟨i,w,h1,h2,h3⟩:=k3 z hz;refine⟨i,w,?_,h2,h3⟩;simp only at h1;split at h1
       . cases h1
       exact h1
     exact mS hg pd px hK hm ns _ h
   exact mS hg pd px hK hm ns _ h
theorem nD {g:Sg} (hg:SgOk g) {d:Cl} (pd:cI g d):∀(rest:List Lt),(∀x∈rest,PropL g x)->∀(used:Nat->Bool) (t:Nat) (m:Mt),lL g m->(bR d rest used t m).1=true->aF9 g d rest used m
 | [],_,used,t,m,hm,_=>⟨m,hm,λ_ _ e=>e,λx hx=>by cases hx⟩
 | x::rest,hp,used,t,m,hm,h=>by
  rw[bR]at h;exact mS hg pd (hp x (List.mem_cons_self ..)) (λu t m hm h=>nD hg pd rest (λz hz=>hp z (List.mem_cons_of_mem _ hz)) u t m hm h) hm _ _ h
theorem aG9 {g:Sg} {I:Itp} {s:Sp} {c d e:Cl} (hg:SgOk g)(hI:ItpOk g I)(pc:cI g c)(pd:cI g d)(hc:eH I c)(hd:eH I d)(h:iK s c d=some e):eH I e:=by
 unfold iK at h;split at h
 . cases h
 split at h
 . cases h
 split at h
 . rename_i hs
   obtain rfl:=Option.some.inj h;generalize (s.lits.headD 0).toNat=i at hs ⊢;unfold aB9 at hs;obtain⟨j,hj,hb⟩:=List.any_eq_true.1 hs;have hb:∃tu,dX c d i j tu=true:=by
    unfold pX at hb;rw[Bool.or_eq_true]at hb;rcases hb with hb | hb
    . exact⟨false,hb⟩
    exact⟨true,hb⟩
   obtain⟨tu,hb⟩:=hb;unfold dX at hb;cases hx:c[j]? with
   | none=>rw[hx]at hb;cases hb
   | some x=>
    cases hy:d[i]? with
    | none=>rw[hx,hy]at hb;cases hb
    | some y=>
     rw[hx,hy]at hb;simp only[Bool.and_eq_true]at hb;have px:=pc x (List.mem_of_getElem? hx);have px':PropL g ⟨!x.neg,x.l,x.r⟩:=⟨px.l,px.r,px.np,px.at_⟩;obtain⟨o1,o2,o3⟩:=tE hg (m:=[]) (λa b e=>by cases e) px' (pd y (List.mem_of_getElem? hy)) hb.1;obtain⟨m',k1,k2,k3⟩:=nD hg pd (c.eraseIdx j) (λz hz=>pc z (List.mem_of_mem_eraseIdx hz)) _ _ _ o1 hb.2;have hxy:IsL m'.get ⟨!x.neg,x.l,x.r⟩ y:=o3 _ λa b e=>k2 a b e
     intro env he;obtain⟨z,hz,hh⟩:=hc _ (nJ (σ:=m'.get) hI k1 he);obtain⟨q,hq,rfl⟩:=List.mem_iff_getElem.1 hz;by_cases eq:q=j
     . subst eq;rw[List.getElem?_eq_getElem hq]at hx;obtain rfl:=Option.some.inj hx;refine gY (hd env he) λw hw=>.inl λhhw=>?_
       rw[hy]at hw;obtain rfl:=Option.some.inj hw;have h2:=(tD (I:=I) (env:=env) hxy).2 hhw;unfold cV at hh h2;simp only at h2;cases hn:c[q].neg with
       | false=>rw[hn]at hh h2;have:=h2.1 (hh.2 rfl);cases this
       | true=>rw[hn]at hh h2;have:=hh.1 (h2.2 rfl);cases this
     obtain⟨n,w,h1,h2,h3⟩:=k3 c[q] (List.mem_eraseIdx_iff_getElem.2 ⟨q,hq,eq,rfl⟩);obtain⟨hn,rfl⟩:=List.getElem?_eq_some_iff.1 h2;exact⟨d[n],List.mem_eraseIdx_iff_getElem.2 ⟨n,hn,by simpa using h1,rfl⟩,(tD h3).1 hh⟩
 cases h
def lW (τ:Int->Option Int)(f:Int):Int:=if f<0 then(τ f).getD f else f
mutual
def lX (τ:Int->Option Int):Tm->Tm
 | .mk f xs=>.mk (lW τ f) (gA τ xs)
def gA (τ:Int->Option Int):List Tm->List Tm
 | []=>[]
 | x::xs=>lX τ x::gA τ xs
end
def aE6 (τ:Int->Option Int)(x:Lt):Lt:=⟨x.neg,lX τ x.l,lX τ x.r⟩
theorem tR (τ:Int->Option Int):∀xs:List Tm,gA τ xs=xs.map (lX τ)
 | []=>by rw[gA];rfl
 | x::xs=>by rw[gA,tR τ xs];rfl
def jR (τ:Int->Option Int):Prop:=∀x y,τ x=some y->y<0
theorem kE {τ:Int->Option Int} (h:jR τ)(f:Int):lW τ f<0↔f<0:=by
 unfold lW;by_cases hf:f<0
 . rw[if_pos hf];cases e:τ f with
   | none=>exact⟨λ_=>hf,λ_=>hf⟩
   | some y=>exact⟨λ_=>hf,λ_=>h f y e⟩
 rw[if_neg hf]
mutual
theorem xV (I:Itp) {τ:Int->Option Int} (h:jR τ)(env:Int->Int):∀t:Tm,cG I env (lX τ t)=cG I (λf=>env (lW τ f)) t
 | .mk f xs=>by
  rw[lX,cG,cG];by_cases hf:f<0
  . rw[if_pos hf,if_pos ((kE h f).2 hf)]
  have e:lW τ f=f:=by unfold lW;rw[if_neg hf]
  rw[e,if_neg hf,if_neg hf,uD I h env xs]
theorem uD (I:Itp) {τ:Int->Option Int} (h:jR τ)(env:Int->Int):∀xs:List Tm,cO I env (gA τ xs)=cO I (λf=>env (lW τ f)) xs
 | []=>by rw[gA,cO,cO]
 | x::xs=>by rw[gA,cO,cO,xV I h env x,uD I h env xs]
end
mutual
theorem vH {g:Sg} {τ:Int->Option Int} (h:jR τ):∀t:Tm,bQ g t->bQ g (lX τ t)
 | .mk f xs,hf=>by
  rw[bQ]at hf;rw[lX,bQ];refine⟨λk=>?_,λk=>?_,xK h xs hf.2.2⟩
  . rw[hf.1 ((kE h f).1 k),gA]
  have k2:¬f<0:=λq=>k ((kE h f).2 q)
  have e:lW τ f=f:=by unfold lW;rw[if_neg k2]
  rw[e,tR,List.length_map];exact hf.2.1 k2
theorem xK {g:Sg} {τ:Int->Option Int} (h:jR τ):∀xs:List Tm,bW g xs->bW g (gA τ xs)
 | [],_=>by rw[gA,bW];trivial
 | x::xs,hf=>by
  rw[bW]at hf;rw[gA,bW];exact⟨⟨vH h x hf.1.1,(vI h x).2 hf.1.2⟩,xK h xs hf.2⟩
theorem vI {g:Sg} {τ:Int->Option Int} (h:jR τ):∀t:Tm,g.np (lX τ t).fn↔g.np t.fn
 | .mk f xs=>by
  rw[lX];show g.np (lW τ f)↔g.np f
  by_cases hf:f<0
  . exact⟨λ_=>.inl hf,λ_=>.inl ((kE h f).2 hf)⟩
  have e:lW τ f=f:=by unfold lW;rw[if_neg hf]
  rw[e]
end
theorem aI9 {g:Sg} {τ:Int->Option Int} (h:jR τ) {x:Lt} (p:PropL g x):PropL g (aE6 τ x):=by
 refine⟨vH h _ p.l,vH h _ p.r,((vI h x.l).trans p.np).trans (vI h x.r).symm,λhn=>?_⟩;have:=p.at_ (λk=>hn ((vI h x.l).2 k));show lX τ x.r=.mk 0 []
 rw[this,lX,gA];rfl
def uG (n m:Nm):Prop:=∀x y,n.there x=some y->m.there x=some y
theorem aL1 {n:Nm} {f g:Int} (h:n.fine f g=true):uG n (n.bind f g):=by
 intro x y hxy;unfold Nm.bind;by_cases e:x=f
 . subst e;simp only[if_true];unfold Nm.fine at h;rw[hxy]at h;cases hb:n.back g with
   | none=>rw[hb]at h;cases h
   | some z=>
    rw[hb]at h;simp only[Bool.and_eq_true,decide_eq_true_eq]at h;rw[h.1]
 simp only[if_neg e];exact hxy
theorem aG5 {n:Nm} {f g:Int} (h:jR n.there)(hg:g<0):jR (n.bind f g).there:=by
 intro x y hxy;unfold Nm.bind at hxy;simp only at hxy;split at hxy
 . rw[<-Option.some.inj hxy];exact hg
 exact h x y hxy
mutual
theorem vO:∀(t u:Tm) (n:Nm),jR n.there->(dT n t u).1=true->jR (dT n t u).2.there/\uG n (dT n t u).2/\∀m:Nm,uG (dT n t u).2 m->lX m.there t=u
 | .mk f xs,.mk g ys,n,hv,h=>by
  rw[dT]at h ⊢;by_cases hfg:f<0/\g<0
  . rw[if_pos hfg]at h ⊢;by_cases hb:n.fine f g=true
    . rw[if_pos hb]at h ⊢;by_cases hl:xs.length=ys.length
      . rw[if_pos hl]at h ⊢;obtain⟨a1,a2,a3⟩:=rW xs ys (n.bind f g) hl (aG5 hv hfg.2) h;refine⟨a1,λx y e=>a2 x y (aL1 hb x y e),λm hm=>?_⟩;have hfm:m.there f=some g:=hm f g (a2 f g (by unfold Nm.bind;simp));rw[lX,a3 m hm];unfold lW;rw[if_pos hfg.1,hfm];rfl
      rw[if_neg hl]at h;cases h
    rw[if_neg hb]at h;cases h
  rw[if_neg hfg]at h ⊢;by_cases he:f=g
  . rw[if_pos he]at h ⊢;by_cases hl:xs.length=ys.length
    . rw[if_pos hl]at h ⊢;obtain⟨a1,a2,a3⟩:=rW xs ys n hl hv h;refine⟨a1,a2,λm hm=>?_⟩;rw[lX,a3 m hm];unfold lW;rw[if_neg (λk=>hfg ⟨k,by rw[<-he];exact k⟩),he]
    rw[if_neg hl]at h;cases h
  rw[if_neg he]at h;cases h
theorem rW:∀(xs ys:List Tm) (n:Nm),xs.length=ys.length->jR n.there->(iS n xs ys).1=true->jR (iS n xs ys).2.there/\uG n (iS n xs ys).2/\∀m:Nm,uG (iS n xs ys).2 m->gA m.there xs=ys
 | [],[],n,_,hv,_=>by rw[iS];exact⟨hv,λ_ _ e=>e,λm _=>by rw[gA]⟩;simp
 | [],_::_,n,h,_,_=>by simp at h
 | _::_,[],n,h,_,_=>by simp at h
 | x::xs,y::ys,n,hl,hv,h=>by
  rw[iS]at h ⊢;by_cases hb:(dT n x y).1=true
  . rw[if_pos hb]at h ⊢;obtain⟨a1,a2,a3⟩:=vO x y n hv hb;obtain⟨b1,b2,b3⟩:=rW xs ys _ (by simpa using hl) a1 h;refine⟨b1,λp q e=>b2 p q (a2 p q e),λm hm=>?_⟩;rw[gA,b3 m hm,a3 m λp q e=>hm p q (b2 p q e)]
  rw[if_neg hb]at h;cases h
end
theorem aJ9 (x y:Lt)(n:Nm)(hv:jR n.there)(h:(kY n x y).1=true):jR (kY n x y).2.there/\uG n (kY n x y).2/\∀m:Nm,uG (kY n x y).2 m->aE6 m.there x=y:=by
 unfold kY at h ⊢;by_cases hn:x.neg=y.neg
 . rw[if_pos hn]at h ⊢;by_cases hb:(dT n x.l y.l).1=true
   . rw[if_pos hb]at h ⊢;obtain⟨a1,a2,a3⟩:=vO x.l y.l n hv hb;obtain⟨b1,b2,b3⟩:=vO x.r y.r _ a1 h;refine⟨b1,λp q e=>b2 p q (a2 p q e),λm hm=>?_⟩;unfold aE6;rw[b3 m hm,a3 m (λp q e=>hm p q (b2 p q e)),hn]
   rw[if_neg hb]at h;cases h
 rw[if_neg hn]at h;cases h
theorem wJ:∀(a b:Cl) (n:Nm),a.length=b.length->jR n.there->(eI kY n a b).1=true->jR (eI kY n a b).2.there/\uG n (eI kY n a b).2/\∀m:Nm,uG (eI kY n a b).2 m->a.map (aE6 m.there)=b
 | [],[],n,_,hv,_=>⟨hv,λ_ _ e=>e,λ_ _=>rfl⟩
 | [],_::_,n,h,_,_=>by simp at h
 | _::_,[],n,h,_,_=>by simp at h
 | x::a,y::b,n,hl,hv,h=>by
  rw[eI]at h ⊢;by_cases hb:(kY n x y).1=true
  . rw[if_pos hb]at h ⊢;obtain⟨a1,a2,a3⟩:=aJ9 x y n hv hb;obtain⟨b1,b2,b3⟩:=wJ a b _ (by simpa using hl) a1 h;refine⟨b1,λp q e=>b2 p q (a2 p q e),λm hm=>?_⟩;rw[List.map_cons,b3 m hm,a3 m λp q e=>hm p q (b2 p q e)]
  rw[if_neg hb]at h;cases h
theorem nM {a b:Cl} (h:dW a b=true):∃τ,jR τ/\a.map (aE6 τ)=b:=by
 unfold dW cM at h;by_cases hl:a.length=b.length
 . rw[if_pos hl]at h;obtain⟨h1,-,h3⟩:=wJ a b aI2 hl (λx y e=>by cases e) h;exact⟨_,h1,h3 _ λ_ _ e=>e⟩
 rw[if_neg hl]at h;cases h
theorem sL {I:Itp} {a b:Cl} (h:dW a b=true)(ha:eH I a):eH I b:=by
 obtain⟨τ,hτ,rfl⟩:=nM h;intro env he;obtain⟨x,hx,hh⟩:=ha (λf=>env (lW τ f)) λf hf=>he _ ((kE hτ f).2 hf)
 refine⟨_,List.mem_map.2 ⟨x,hx,rfl⟩,?_⟩;unfold cV aE6;simp only[xV I hτ];exact hh
theorem sK {g:Sg} {a b:Cl} (h:dW a b=true)(ha:cI g a):cI g b:=by
 obtain⟨τ,hτ,rfl⟩:=nM h;intro x hx;obtain⟨y,hy,rfl⟩:=List.mem_map.1 hx;exact aI9 hτ (ha y hy)
theorem rC {g:Sg} {σ:Int->Option Tm} (hs:pN g σ):∀t:Tm,g.np (cX σ t).fn↔g.np t.fn
 | .mk f xs=>by
  rw[cX];by_cases hf:f<0
  . rw[if_pos hf];cases h:σ f with
    | none=>exact Iff.rfl
    | some y=>exact⟨λ_=>.inl hf,λ_=>(hs f y h).2⟩
  rw[if_neg hf];exact Iff.rfl
mutual
theorem pJ {g:Sg} {σ:Int->Option Tm} (hs:pN g σ):∀t:Tm,bQ g t->bQ g (cX σ t)
 | .mk f xs,h=>by
  rw[bQ]at h;rw[cX];by_cases hf:f<0
  . rw[if_pos hf];cases e:σ f with
    | none=>
     rw[h.1 hf];show bQ g (.mk f (bY σ []))
     rw[bY,bQ];exact⟨λ_=>rfl,λk=>absurd hf k,by rw[bW];trivial⟩
    | some y=>exact(hs f y e).1
  rw[if_neg hf];show bQ g (.mk f (bY σ xs))
  rw[bQ];exact⟨λk=>absurd k hf,λ_=>by rw[dV,List.length_map];exact h.2.1 hf,xJ hs xs h.2.2⟩
theorem xJ {g:Sg} {σ:Int->Option Tm} (hs:pN g σ):∀xs:List Tm,bW g xs->bW g (bY σ xs)
 | [],_=>by rw[bY,bW];trivial
 | x::xs,h=>by
  rw[bW]at h;rw[bY,bW];exact⟨⟨pJ hs x h.1.1,(rC hs x).2 h.1.2⟩,xJ hs xs h.2⟩
end
theorem xI (σ:Int->Option Tm):cX σ (.mk 0 [])=.mk 0 []:=by rw[cX,if_neg (by decide),bY]
theorem aE5 {g:Sg} {σ:Int->Option Tm} (hs:pN g σ) {x:Lt} (p:PropL g x):PropL g (aE4 σ x):=
 ⟨
  pJ hs _ p.l,pJ hs _ p.r,((rC hs x.l).trans p.np).trans (rC hs x.r).symm,λhn=>by
  show cX σ x.r=.mk 0 []
  rw[p.at_ (λk=>hn ((rC hs x.l).2 k)),xI]⟩
theorem oF {g:Sg} {σ:Int->Option Tm} (hs:pN g σ) {c:Cl} (p:cI g c):cI g (gU σ c):=λx hx=>by
 obtain⟨y,hy,rfl⟩:=List.mem_map.1 hx;exact aE5 hs (p y hy)
theorem fJ {g:Sg} {c:Cl} (p:cI g c)(i:Nat):cI g (c.eraseIdx i):=λx hx=>p x (List.mem_of_mem_eraseIdx hx)
theorem vX {g:Sg} {c d:Cl} (p:cI g c)(q:cI g d):cI g (c++d):=λx hx=>by
 rcases List.mem_append.1 hx with h | h
 . exact p x h
 exact q x h
theorem aC1 {g:Sg} {s:Sp} {c d:Cl} (p:cI g c)(h:pZ s c=some d):cI g d:=by
 unfold pZ at h;split at h
 . split at h
   . obtain rfl:=Option.some.inj h;exact fJ p _
   cases h
 cases h
theorem zJ {g:Sg} {s:Sp} {c d:Cl} (p:cI g c)(h:mA s c=some d):cI g d:=by
 unfold mA at h;split at h
 . obtain rfl:=Option.some.inj h;exact fJ p _
 cases h
theorem yO {g:Sg} {s:Sp} {c d:Cl} (p:cI g c)(h:lP s c=some d):cI g d:=by
 unfold lP at h;cases hx:c[li s 0]? with
 | none=>rw[hx]at h;cases h
 | some x=>
  rw[hx]at h;simp only at h;cases hu:cB x.l x.r with
  | none=>rw[hu]at h;cases h
  | some σ=>
   rw[hu]at h;simp only at h;split at h
   . obtain rfl:=Option.some.inj h;have px:=p x (List.mem_of_getElem? hx);exact oF (gI px.l px.r px.np hu).2 (fJ p _)
   cases h
theorem nH {g:Sg} {x:Lt} (p:PropL g x)(r:Bool):g.np (aV x r).fn↔g.np (aV x (!r)).fn:=by
 cases r
 . exact p.np
 exact p.np.symm
theorem yM {g:Sg} {s:Sp} {c d:Cl} (hg:SgOk g)(p:cI g c)(h:lO s c=some d):cI g d:=by
 unfold lO at h;cases hx:c[li s 0]? with
 | none=>rw[hx]at h;cases h
 | some x=>
  cases hy:c[li s 1]? with
  | none=>rw[hx,hy]at h;cases h
  | some y=>
   rw[hx,hy]at h;simp only at h;split at h
   . cases h
   rename_i hcond
   simp only[not_or]at hcond;obtain⟨-,-,-,hta,htu,htv⟩:=hcond;have hta:tr (aV x (ri s 0))=false:=by unfold tr;simpa using hta
   have htu:tr (aV y (ri s 1))=false:=by unfold tr;simpa using htu
   have htv:tr (aV x (!ri s 0))=tr (aV y (!ri s 1)):=by unfold tr;simpa using htv
   cases hu:cB (aV x (ri s 0)) (aV y (ri s 1))with
   | none=>rw[hu]at h;cases h
   | some σ=>
    rw[hu]at h;obtain rfl:=Option.some.inj h;have px:=p x (List.mem_of_getElem? hx);have py:=p y (List.mem_of_getElem? hy);have h1:=hY hg px (ri s 0) hta;have h2:=hY hg py (ri s 1) htu;have i1:=nH px (ri s 0);have i2:=nH py (ri s 1);rw[htv]at h1;have hnp:g.np (aV x (ri s 0)).fn↔g.np (aV y (ri s 1)).fn:=by
     have h3:=h1.symm.trans h2;constructor
     . intro e;exact Classical.byContradiction λk=>(h3.2 k) e
     intro e;exact Classical.byContradiction λk=>(h3.1 k) e
    refine oF (gI (dK px _) (dK py _) hnp hu).2 (vX (fJ p _) λz hz=>?_);rw[List.mem_singleton.1 hz];refine⟨dK px _,dK py _,(i1.symm.trans hnp).trans i2,λhn=>?_⟩;have:tr (aV y (!ri s 1))=true:=h1.2 λk=>hn (i1.1 k)
    exact(kF _).1 this
theorem xL {g:Sg} {x':Tm} (hf:bQ g x')(hn:g.np x'.fn):∀(xs:List Tm) (i:Nat),bW g xs->bW g (xs.set i x')
 | [],i,_=>by rw[List.set_nil,bW];trivial
 | x::xs,0,h=>by
  rw[bW]at h;rw[List.set_cons_zero,bW];exact⟨⟨hf,hn⟩,h.2⟩
 | x::xs,i+1,h=>by
  rw[bW]at h;rw[List.set_cons_succ,bW];exact⟨h.1,xL hf hn xs i h.2⟩
theorem tP {g:Sg} {t:Tm} (ht:bQ g t):∀(p:List Int) (u w:Tm),bQ g u->atT u p=some w->(p≠[]->g.np t.fn)->bQ g (eJ u p t)/\(p≠[]->(eJ u p t).fn=u.fn)
 | [],.mk f xs,w,_,_,_=>by rw[eJ];exact⟨ht,λh=>absurd rfl h⟩
 | i::p,.mk f xs,w,hf,h,hn=>by
  have hn2:=hn (by simp);clear hn;rw[atT]at h;split at h
  . rw[eJ];cases hx:xs[i.toNat]? with
    | none=>simp[hx]at h
    | some x=>
     rw[hx]at h;simp only at h ⊢;rw[bQ]at hf;obtain⟨h1,h2⟩:=mP g hf.2.2 x (List.mem_of_getElem? hx);obtain⟨h3,h4⟩:=tP ht p x w h1 h (λ_=>hn2);have hnx:g.np (eJ x p t).fn:=by
      by_cases e:p=[]
      . subst e;cases x;rw[eJ];exact hn2
      rw[h4 e];exact h2
     refine⟨?_,λ_=>rfl⟩;rw[bQ];refine⟨λk=>?_,λk=>by rw[List.length_set];exact hf.2.1 k,xL h3 hnx _ _ hf.2.2⟩;rw[hf.1 k];rfl
  cases h
theorem tS {g:Sg} {d:Cl} {j:Nat} {y:Lt} {r:Bool} {p:List Int} {t w:Tm} (pd:cI g d)(hy:d[j]? =some y)(hw:atT (fF y r) p=some w)(hu:tr (aV y r)=false)(ht:bQ g t)
 (hA:p=[]->(¬g.np t.fn->t=.mk 0 []/\aV y (!r)=.mk 0 [])/\(g.np t.fn->g.np (aV y (!r)).fn)) (hB:p≠[]->g.np t.fn) (hg:SgOk g):cI g (eD d j y r p t):=by
 have py:=pd y (List.mem_of_getElem? hy);obtain⟨h1,h2⟩:=tP ht p (fF y r) w (dK py r) hw hB;have hnn:¬g.np (Tm.mk 0 []).fn:=xR hg ((kF _).2 rfl);intro z hz;unfold eD at hz;rcases List.mem_or_eq_of_mem_set hz with hz | rfl
 . exact pd z hz
 by_cases e:p=[]
 . obtain⟨a1,a2⟩:=hA e;have ep:eJ (fF y r) p t=t:=by
    subst e;cases fF y r
    rw[eJ]
   rw[ep];cases r with
   | false=>
    have a1:¬g.np t.fn->t=.mk 0 []/\y.r=.mk 0 []:=a1;have a2:g.np t.fn->g.np y.r.fn:=a2;refine⟨ht,py.r,⟨a2,λk=>Classical.byContradiction λq=>hnn (by rw[<-(a1 q).2];exact k)⟩,λq=>(a1 q).2⟩
   | true=>
    have a1:¬g.np t.fn->t=.mk 0 []/\y.l=.mk 0 []:=a1;have a2:g.np t.fn->g.np y.l.fn:=a2;refine⟨py.l,ht,⟨λk=>Classical.byContradiction λq=>hnn (by rw[<-(a1 q).2];exact k),a2⟩,λq=>(a1 λk=>q (a2 k)).1⟩
 have h2:=h2 e;cases r with
 | false=>
  have h2:(eJ y.l p t).fn=y.l.fn:=h2;refine⟨h1,py.r,?_,?_⟩
  . show g.np (eJ y.l p t).fn↔g.np y.r.fn
    rw[h2];exact py.np
  show ¬g.np (eJ y.l p t).fn->y.r=.mk 0 []
  rw[h2];exact py.at_
 | true=>
  have h2:(eJ y.r p t).fn=y.r.fn:=h2;have hu:tr y.r=false:=hu;refine⟨py.l,h1,?_,λq=>?_⟩
  . show g.np y.l.fn↔g.np (eJ y.r p t).fn
    rw[h2];exact py.np
  have:=py.at_ q;rw[this]at hu;cases hu
theorem aC9 {g:Sg} {s:Sp} {c d e:Cl} (hg:SgOk g)(pc:cI g c)(pd:cI g d)(h:dR s c d=some e):cI g e:=by
 have pd:=xC pd;unfold dR at h;split at h
 . cases h
 generalize cW d=d at pd h;cases hx:c[li s 0]? with
 | none=>rw[hx]at h;cases h
 | some x=>
  cases hy:d[li s 1]? with
  | none=>rw[hx,hy]at h;cases h
  | some y=>
   rw[hx,hy]at h;simp only at h;split at h
   . cases h
   unfold jZ at h;cases hp:atT (aV y (ri s 1)) s.pos with
   | none=>rw[hp]at h;cases h
   | some p=>
    rw[hp]at h;simp only at h;split at h
    . cases h
    rename_i hap
    have px:=pc x (List.mem_of_getElem? hx);have py:=pd y (List.mem_of_getElem? hy);have hap2:iV (aV x (ri s 0)) (aV x (!ri s 0)) (aV y (ri s 1)) (aV y (!ri s 1)) s.pos.length=true:=(by simpa using hap);unfold iV at hap2;simp only[Bool.and_eq_true,Bool.not_eq_true',beq_iff_eq]at hap2;obtain⟨⟨ha,hu⟩,ht⟩:=hap2;have ha:tr (aV x (ri s 0))=false:=ha;have hu:tr (aV y (ri s 1))=false:=hu;have ht:tr (aV x (!ri s 0))=(tr (aV y (!ri s 1))&&decide (s.pos.length=0)):=ht;have h1:=hY hg px (ri s 0) ha;have h2:=hY hg py (ri s 1) hu;have i1:=nH px (ri s 0);have i2:=nH py (ri s 1);obtain⟨pf,pn⟩:=yF s.pos _ _ (dK py (ri s 1)) hp;have hnp:g.np (aV x (ri s 0)).fn↔g.np p.fn:=by
     by_cases e:s.pos=[]
     . rw[e]at hp ht;have hpe:aV y (ri s 1)=p:=by
        cases hq:aV y (ri s 1)with
        | mk f xs=>rw[hq,atT]at hp;exact Option.some.inj hp
       rw[<-hpe];simp only[List.length_nil,decide_true,Bool.and_true]at ht;rw[ht]at h1;have h3:=h1.symm.trans h2;constructor
       . intro k;exact Classical.byContradiction λk2=>(h3.2 k2) k
       intro k;exact Classical.byContradiction λk2=>(h3.1 k2) k
     have hl:s.pos.length≠0:=λh=>e (List.length_eq_zero_iff.1 h)
     rw[decide_eq_false hl,Bool.and_false]at ht;exact⟨λ_=>pn e,λ_=>Classical.byContradiction λk=>by have:=h1.2 k;rw[ht]at this;cases this⟩
    have hyT:atT (fF y (ri s 1)) s.pos=some p:=hp;have hA:s.pos=[]->(¬g.np (aV x (!ri s 0)).fn->aV x (!ri s 0)=.mk 0 []/\aV y (!ri s 1)=.mk 0 [])/\(g.np (aV x (!ri s 0)).fn->g.np (aV y (!ri s 1)).fn):=by
     intro e;rw[e]at ht;simp only[List.length_nil,decide_true,Bool.and_true]at ht;refine⟨λq=>?_,λq=>?_⟩
     . have k:=h1.2 λz=>q (i1.1 z)
       exact⟨(kF _).1 k,(kF _).1 (by rw[<-ht];exact k)⟩
     refine i2.1 (Classical.byContradiction λz=>?_);have k:=h2.2 z;rw[<-ht]at k;exact h1.1 k (i1.2 q)
    have hB:s.pos≠[]->g.np (aV x (!ri s 0)).fn:=by
     intro e;have hl:s.pos.length≠0:=λh=>e (List.length_eq_zero_iff.1 h)
     rw[decide_eq_false hl,Bool.and_false]at ht;exact i1.1 (Classical.byContradiction λk=>by have:=h1.2 k;rw[ht]at this;cases this)
    split at h
    . split at h
      . cases h
      cases hun:cB (aV x (ri s 0)) p with
      | none=>rw[hun]at h;cases h
      | some σ=>
       rw[hun]at h;obtain rfl:=Option.some.inj h;exact oF (gI (dK px _) pf hnp hun).2 (vX (fJ pc _) (tS pd hy hyT hu (dK px _) hA hB hg))
    split at h
    . cases h
    split at h
    . cases h
    split at h
    . cases h
    obtain rfl:=Option.some.inj h;have hok:pN g (Mt.get (bH [] (aV x (ri s 0)) p).2):=iQ (m:=[]) (λx y h=>by cases h) pf hnp.1;have hpn:=rC hok (aV x (!ri s 0));refine tS pd hy hyT hu (pJ hok _ (dK px _)) (λe=>⟨λq=>?_,λq=>(hA e).2 (hpn.1 q)⟩) (λe=>hpn.2 (hB e)) hg;obtain⟨k1,k2⟩:=(hA e).1 λz=>q (hpn.2 z)
    exact⟨by rw[k1,xI],k2⟩
theorem aG8 {g:Sg} {s:Sp} {c d e:Cl} (pd:cI g d)(h:iK s c d=some e):cI g e:=by
 unfold iK at h;split at h
 . cases h
 split at h
 . cases h
 split at h
 . obtain rfl:=Option.some.inj h;exact fJ pd _
 cases h
def mE (g:Sg)(I:Itp)(c:Cl):Prop:=cI g c/\eH I c
theorem xQ {g:Sg} {I:Itp} {s:Sp} {c d:Cl} (hg:SgOk g)(hI:ItpOk g I)(hc:mE g I c)(h:bA s c=some d):mE g I d:=by
 unfold bA at h;split at h
 . cases h
 split at h
 . exact⟨aC1 hc.1 h,aC2 hc.2 h⟩
 split at h
 . exact⟨zJ hc.1 h,zK hc.2 h⟩
 split at h
 . exact⟨yO hc.1 h,yP hI hc.2 (λx hx=>⟨(hc.1 x hx).l,(hc.1 x hx).r,(hc.1 x hx).np⟩) h⟩
 exact⟨yM hg hc.1 h,yN hg hI hc.1 hc.2 h⟩
theorem yW {g:Sg} {I:Itp} {inp:List Cl} {ps:List Sp} {s:Sp} {c:Cl} (hg:SgOk g)(hI:ItpOk g I)(hin:∀x∈inp,mE g I x)(hpar:∀x∈jE ps s,mE g I x)(h:cF inp ps s=some c):mE g I c:=by
 unfold cF at h;split at h
 . split at h
   . cases h
   exact hin c (List.mem_of_getElem? h)
 unfold qL at h;split at h
 . cases h
 split at h
 . unfold qM at h;split at h
   . rename_i x hl
     exact xQ hg hI (hpar x (by rw[hl];simp)) h
   cases h
 split at h
 . unfold qN at h;split at h
   . rename_i x y hl
     have hx:=hpar x (by rw[hl];simp);have hy:=hpar y (by rw[hl];simp);exact⟨aC9 hg hx.1 hy.1 h,aD0 hg hI hx.1 hy.1 hx.2 hy.2 h⟩
   cases h
 split at h
 . unfold mU at h;split at h
   . rename_i x y hl
     have hx:=hpar x (by rw[hl];simp);have hy:=hpar y (by rw[hl];simp);exact⟨aG8 hy.1 h,aG9 hg hI hx.1 hy.1 hx.2 hy.2 h⟩
   cases h
 cases h
theorem zE {g:Sg} {I:Itp} {inp:List Cl} {ps:List Sp} {n:Int} (hg:SgOk g)(hI:ItpOk g I)(hin:∀x∈inp,mE g I x)(h:dO inp ps n=true):
 ∃s,0<=n/\ps[n.toNat]? =some s/\(∀k∈s.parents,0<=k/\k<n)/\eK s.clause=true/\((∀x∈jE ps s,mE g I x)->mE g I s.clause):=by
 unfold dO at h;simp only[Bool.and_eq_true,decide_eq_true_eq]at h;obtain⟨⟨h0,h1⟩,h2⟩:=h;cases hs:ps[n.toNat]? with
 | none=>rw[hs]at h2;cases h2
 | some s=>
  rw[hs]at h2;simp only[Bool.and_eq_true,Bool.not_eq_true']at h2;obtain⟨⟨hf,hp⟩,hm⟩:=h2;refine⟨s,h0,rfl,λk hk=>?_,hf,λhpar=>?_⟩
  . have:=List.any_eq_false.1 hp k hk;simp at this
    omega
  cases hc:cF inp ps s with
  | none=>rw[hc]at hm;cases hm
  | some c=>
   rw[hc]at hm;have hgood:=yW hg hI hin hpar hc;exact⟨sK hm hgood.1,sL hm hgood.2⟩
def mC (sig:List Sy):Prop:=∀k (h:k<sig.length),0<=sig[k].ar
theorem kB (sig:List Sy)(f:Int):(fP sig).np f↔prB sig f=false:=by
 unfold Sg.np prB;show f<0\/((sig[f.toNat]?).map Sy.pr).getD false=false↔_
 rw[Bool.and_eq_false_iff,decide_eq_false_iff_not];constructor
 . rintro(h | h)
   . exact .inl (by omega)
   exact .inr h
 rintro(h | h)
 . exact .inl (by omega)
 exact .inr h
theorem aM8 {sig:List Sy} (ha:mC sig) {f:Int} (hf:¬f<0)(n:Nat):(fP sig).ar f=some n↔(sig[f.toNat]?).map Sy.ar=some (n:Int):=by
 show (if f<0 then none else(sig[f.toNat]?).map λs=>s.ar.toNat)=some n↔_
 rw[if_neg hf];cases e:sig[f.toNat]? with
 | none=>constructor <;> intro h <;> cases h
 | some s=>
  obtain⟨hk,rfl⟩:=List.getElem?_eq_some_iff.1 e;have h0:=ha _ hk;constructor
  . intro h;have h:sig[f.toNat].ar.toNat=n:=Option.some.inj h;show some sig[f.toNat].ar=some (n:Int)
    rw[<-h,Int.toNat_of_nonneg h0]
  intro h;have h:sig[f.toNat].ar=(n:Int):=Option.some.inj h;show some sig[f.toNat].ar.toNat=some n
  rw[h,Int.toNat_natCast]
mutual
theorem jW {sig:List Sy} (ha:mC sig):∀t:Tm,fL sig t=true->bQ (fP sig) t/\fM 48 t=true
 | .mk f xs,h=>by
  rw[fL]at h;rw[bQ,fM];by_cases hf:f<0
  . rw[if_pos hf]at h;simp only[Bool.and_eq_true,decide_eq_true_eq]at h;have hx:xs=[]:=List.length_eq_zero_iff.1 h.2;subst hx;rw[if_pos hf];exact⟨⟨λ_=>rfl,λe=>absurd hf e,by rw[bW];trivial⟩,by simp;exact h.1⟩
  rw[if_neg hf]at h;simp only[Bool.and_eq_true,decide_eq_true_eq]at h;obtain⟨h1,h2⟩:=sX ha xs h.2;rw[if_neg hf];exact⟨⟨λe=>absurd e hf,λ_=>(aM8 ha hf _).2 h.1,h1⟩,h2⟩
theorem sX {sig:List Sy} (ha:mC sig):∀xs:List Tm,lB sig xs=true->bW (fP sig) xs/\lD 48 xs=true
 | [],_=>⟨by rw[bW];trivial,by rw[lD]⟩
 | x::xs,h=>by
  rw[lB]at h;simp only[Bool.and_eq_true,Bool.not_eq_true']at h;obtain⟨h1,h2⟩:=jW ha x h.1.1;obtain⟨h3,h4⟩:=sX ha xs h.2;rw[bW,lD,h2,h4];exact⟨⟨⟨h1,(kB _ _).2 h.1.2⟩,h3⟩,rfl⟩
end
mutual
theorem jX {sig:List Sy} (ha:mC sig):∀t:Tm,bQ (fP sig) t->eV t=true->fL sig t=true
 | .mk f xs,h,hp=>by
  rw[eV,Bool.and_eq_true,decide_eq_true_eq]at hp;rw[bQ]at h;rw[fL];by_cases hf:f<0
  . rw[if_pos hf,h.1 hf];simp;exact hp.1
  rw[if_neg hf,sY ha xs h.2.2 hp.2,Bool.and_true,decide_eq_true_eq];exact(aM8 ha hf _).1 (h.2.1 hf)
theorem sY {sig:List Sy} (ha:mC sig):∀xs:List Tm,bW (fP sig) xs->iL xs=true->lB sig xs=true
 | [],_,_=>by rw[lB]
 | x::xs,h,hp=>by
  rw[iL,Bool.and_eq_true]at hp;rw[bW]at h;rw[lB,jX ha x h.1.1 hp.1,sY ha xs h.2 hp.2,(kB _ _).1 h.1.2];rfl
end
def lS (sig:List Sy)(x:Lt):Bool:=fL sig x.l&&fL sig x.r&&(prB sig x.l.fn==prB sig x.r.fn)
mutual
def gQ:Tm->List Bool->List Bool
 | .mk f xs,l=>if f<0 then l.set (-1-f).toNat true else dG xs l
def dG:List Tm->List Bool->List Bool
 | [],l=>l
 | x::xs,l=>dG xs (gQ x l)
end
mutual
def mW (j:Nat):Tm->Bool
 | .mk f xs=>if f<0 then decide (f= -1-(j:Int))else eG j xs
def eG (j:Nat):List Tm->Bool
 | []=>false
 | x::xs=>mW j x || eG j xs
end
theorem qP:∀(xs ys:List Tm) (l:List Bool),dG (xs++ys) l=dG ys (dG xs l)
 | [],ys,l=>by rw[dG];rfl
 | x::xs,ys,l=>by rw[List.cons_append,dG,dG,qP xs ys]
theorem wY {xs:List Tm} {k:Nat} (hk:k<xs.length)(l:List Bool):dG (xs.take (k+1)) l=gQ xs[k] (dG (xs.take k) l):=by
 rw[List.take_succ_eq_append_getElem hk,qP,dG,dG]
mutual
theorem fN:∀(t:Tm) (l:List Bool),(gQ t l).length=l.length
 | .mk f xs,l=>by
  rw[gQ];by_cases hf:f<0
  . rw[if_pos hf,List.length_set]
  rw[if_neg hf,qR xs l]
theorem qR:∀(xs:List Tm) (l:List Bool),(dG xs l).length=l.length
 | [],l=>by rw[dG]
 | x::xs,l=>by rw[dG,qR xs,fN x]
end
mutual
theorem nZ:∀(t:Tm) (l:List Bool) (j:Nat),j<l.length->(gQ t l)[j]? =some ((l[j]?).getD false || mW j t)
 | .mk f xs,l,j,hj=>by
  rw[gQ,mW];by_cases hf:f<0
  . rw[if_pos hf,if_pos hf,List.getElem?_set];by_cases e:f= -1-(j:Int)
    . rw[if_pos (by omega),if_pos (by omega),e];simp
    rw[if_neg (by omega),decide_eq_false e,Bool.or_false,List.getElem?_eq_getElem hj];rfl
  rw[if_neg hf,if_neg hf];exact qQ xs l j hj
theorem qQ:∀(xs:List Tm) (l:List Bool) (j:Nat),j<l.length->(dG xs l)[j]? =some ((l[j]?).getD false || eG j xs)
 | [],l,j,hj=>by rw[dG,eG,Bool.or_false,List.getElem?_eq_getElem hj];rfl
 | x::xs,l,j,hj=>by
  rw[dG,eG,qQ xs _ j (by rw[fN];exact hj),nZ x l j hj,<-Bool.or_assoc];rfl
end
mutual
theorem mB (I:Itp) {e1 e2:Int->Int}:∀t:Tm,(∀j,mW j t=true->e1 (-1-(j:Int))=e2 (-1-(j:Int)))->cG I e1 t=cG I e2 t
 | .mk f xs,h=>by
  rw[cG,cG];by_cases hf:f<0
  . rw[if_pos hf,if_pos hf];have:=h (-1-f).toNat (by rw[mW,if_pos hf,decide_eq_true_eq];omega);rwa [show-1-(((-1-f).toNat:Nat):Int)=f by omega]at this
  rw[if_neg hf,if_neg hf,oZ I xs λj hj=>h j (by rw[mW,if_neg hf];exact hj)]
theorem oZ (I:Itp) {e1 e2:Int->Int}:∀xs:List Tm,(∀j,eG j xs=true->e1 (-1-(j:Int))=e2 (-1-(j:Int)))->cO I e1 xs=cO I e2 xs
 | [],_=>by rw[cO,cO]
 | x::xs,h=>by
  rw[cO,cO,mB I x λj hj=>h j (by rw[eG,hj];rfl),oZ I xs λj hj=>h j (by rw[eG,hj,Bool.or_true])]
end
def eF:Cl->List Bool->List Bool
 | [],l=>l
 | x::c,l=>eF c (gQ x.r (gQ x.l l))
def pE (j:Nat)(c:Cl):Bool:=c.any λx=>mW j x.l || mW j x.r
theorem tF:∀(c d:Cl) (l:List Bool),eF (c++d) l=eF d (eF c l)
 | [],d,l=>by rw[eF];rfl
 | x::c,d,l=>by rw[List.cons_append,eF,eF,tF c d]
theorem qO {c:Cl} {k:Nat} (hk:k<c.length)(l:List Bool):eF (c.take (k+1)) l=gQ c[k].r (gQ c[k].l (eF (c.take k) l)):=by
 rw[List.take_succ_eq_append_getElem hk,tF,eF,eF]
theorem tH:∀(c:Cl) (l:List Bool),(eF c l).length=l.length
 | [],l=>by rw[eF]
 | x::c,l=>by rw[eF,tH c,fN,fN]
theorem tG:∀(c:Cl) (l:List Bool) (j:Nat),j<l.length->(eF c l)[j]? =some ((l[j]?).getD false || pE j c)
 | [],l,j,hj=>by rw[eF,List.getElem?_eq_getElem hj];simp[pE]
 | x::c,l,j,hj=>by
  rw[eF,tG c _ j (by rw[fN,fN];exact hj),nZ _ _ j (by rw[fN];exact hj),nZ _ _ j hj];unfold pE;rw[List.any_cons];simp[Bool.or_assoc]
def jP (c:Cl):List Bool:=eF c (List.replicate 48 false)
theorem oA (c:Cl):(jP c).length=48:=by unfold jP;rw[tH,List.length_replicate]
theorem tI (c:Cl) {j:Nat} (hj:j<48):(jP c)[j]? =some (pE j c):=by
 unfold jP;rw[tG _ _ _ (by rw[List.length_replicate];exact hj),List.getElem?_replicate,if_pos hj];simp
def eU:List Bool->Nat->List Nat
 | [],_=>[]
 | b::l,n=>if b=true then n::eU l (n+1)else eU l (n+1)
theorem wR:∀(l m:List Bool) (n:Nat),eU (l++m) n=eU l n++eU m (n+l.length)
 | [],m,n=>by rw[eU];rfl
 | b::l,m,n=>by
  rw[List.cons_append,eU,eU,wR l m,List.length_cons,show n+1+l.length=n+(l.length+1) by omega];cases b <;> rfl
theorem tC {l:List Bool} {k:Nat} (hk:k<l.length):eU (l.take (k+1)) 0=if l[k]=true then eU (l.take k) 0++[k]else eU (l.take k) 0:=by
 rw[List.take_succ_eq_append_getElem hk,wR,List.length_take,Nat.min_eq_left (by omega),Nat.zero_add,eU,eU];by_cases h:l[k]=true
 . rw[if_pos h,if_pos h]
 rw[if_neg h,if_neg h,List.append_nil]
theorem qH:∀(l:List Bool) (n j:Nat),j∈eU l n↔n<=j/\l[j-n]? =some true
 | [],n,j=>by simp[eU]
 | b::l,n,j=>by
  rw[eU];have ih:=qH l (n+1) j;by_cases e:j=n
  . subst e;have:¬j∈eU l (j+1):=λh=>by have:=(ih.1 h).1;omega
    cases b with
    | false=>simp[this]
    | true=>simp
  have hc:n<=j/\(b::l)[j-n]? =some true↔n+1<=j/\l[j-(n+1)]? =some true:=by
   constructor
   . rintro⟨h1,h2⟩;refine⟨by omega,?_⟩;rw[show j-n=(j-(n+1))+1 by omega,List.getElem?_cons_succ]at h2;exact h2
   rintro⟨h1,h2⟩;refine⟨by omega,?_⟩;rw[show j-n=(j-(n+1))+1 by omega,List.getElem?_cons_succ];exact h2
  rw[hc,<-ih];cases b with
  | false=>simp
  | true=>simp[e]
theorem jA:∀(l:List Bool) (n:Nat),(eU l n).Nodup
 | [],n=>by rw[eU];exact List.nodup_nil
 | b::l,n=>by
  rw[eU];cases b with
  | false=>exact jA l (n+1)
  | true=>
   refine List.nodup_cons.2 ⟨λh=>?_,jA l (n+1)⟩;have:=((qH l (n+1) n).1 h).1;omega
def jS (c:Cl):List Nat:=eU (jP c) 0
theorem rV (c:Cl)(j:Nat):j∈jS c↔j<48/\pE j c=true:=by
 unfold jS;rw[qH,Nat.sub_zero];constructor
 . rintro⟨-,h⟩;have hj:j<48:=by rw[<-oA c];exact(List.getElem?_eq_some_iff.1 h).1
   rw[tI c hj]at h;exact⟨hj,Option.some.inj h⟩
 rintro⟨h,h2⟩;exact⟨Nat.zero_le _,by rw[tI c h,h2]⟩
def mI (sig:List Sy)(c:Cl):Bool:=c.all (lS sig)&&decide ((jS c).length<=8)
def jO (sig:List Sy)(x:Lt):Bool:= !(prB sig x.l.fn) || tr x.r
def dY (sig:List Sy)(c:Cl):Bool:=mI sig c&&c.all (jO sig)
theorem qJ {sig:List Sy} (ha:mC sig) {x:Lt} (h:lS sig x=true):(bQ (fP sig) x.l/\fM 48 x.l=true)/\(bQ (fP sig) x.r/\fM 48 x.r=true):=by
 unfold lS at h;rw[Bool.and_eq_true,Bool.and_eq_true]at h;exact⟨jW ha _ h.1.1,jW ha _ h.1.2⟩
theorem jF {sig:List Sy} (ha:mC sig) {c:Cl} (h:dY sig c=true):cI (fP sig) c/\(∀x∈c,lS sig x=true)/\(jS c).length<=8:=by
 unfold dY mI at h;simp only[Bool.and_eq_true,decide_eq_true_eq,List.all_eq_true]at h;obtain⟨⟨h1,h2⟩,h3⟩:=h;refine⟨λx hx=>?_,h1,h2⟩;have hl:=h1 x hx;obtain⟨f1,f2⟩:=qJ ha hl;have h4:=h3 x hx;unfold lS at hl;rw[Bool.and_eq_true,beq_iff_eq]at hl;refine⟨f1.1,f2.1,by rw[kB,kB,hl.2],λhn=>?_⟩;unfold jO at h4;rw[Bool.or_eq_true,Bool.not_eq_true']at h4;rcases h4 with h4 | h4
 . exact absurd ((kB _ _).2 h4) hn
 exact(kF _).1 h4
theorem aE3 {sig:List Sy} (ha:mC sig) {c:Cl} (h:cI (fP sig) c)(hp:∀x∈c,eV x.l=true/\eV x.r=true)(hn:(jS c).length<=8):dY sig c=true:=by
 unfold dY mI;simp only[Bool.and_eq_true,decide_eq_true_eq,List.all_eq_true];refine⟨⟨λx hx=>?_,hn⟩,λx hx=>?_⟩
 . have hx':=h x hx;unfold lS;rw[jX ha _ hx'.l (hp x hx).1,jX ha _ hx'.r (hp x hx).2,Bool.and_true,Bool.true_and,beq_iff_eq];have:=hx'.np;rw[kB,kB]at this;cases e1:prB sig x.l.fn <;> cases e2:prB sig x.r.fn <;> simp_all
 have hx':=h x hx;unfold jO;rw[Bool.or_eq_true,Bool.not_eq_true'];by_cases e:prB sig x.l.fn=false
 . exact .inl e
 exact .inr ((kF _).2 (hx'.at_ (λe2=>e ((kB _ _).1 e2))))
def mT (I:Itp)(env:Int->Int)(x:Lt):Bool:=(cG I env x.l==cG I env x.r) !=x.neg
def jY (I:Itp)(env:Int->Int)(c:Cl):Bool:=c.any (mT I env)
theorem qG (I:Itp)(env:Int->Int)(c:Cl):jY I env c=true↔eQ I env c:=by
 unfold jY eQ;rw[List.any_eq_true];refine exists_congr λx=>and_congr_right λ_=>?_
 unfold mT cV;by_cases e:cG I env x.l=cG I env x.r
 . cases x.neg <;> simp[e]
 cases x.neg <;> simp[e]
theorem wQ (I:Itp) {e1 e2:Int->Int} {c:Cl} (h:∀j,pE j c=true->e1 (-1-(j:Int))=e2 (-1-(j:Int))):eQ I e1 c->eQ I e2 c:=by
 rintro⟨x,hx,h1⟩;refine⟨x,hx,?_⟩;have hl:cG I e1 x.l=cG I e2 x.l:=mB I _ λj hj=>h j (List.any_eq_true.2 ⟨x,hx,by rw[hj];rfl⟩)
 have hr:cG I e1 x.r=cG I e2 x.r:=mB I _ λj hj=>h j (List.any_eq_true.2 ⟨x,hx,by rw[hj,Bool.or_true]⟩)
 unfold cV at h1 ⊢;rwa [<-hl,<-hr]
def sU (N:Nat)(x i:Nat):Nat:=x / N ^ i % N
def lE (N:Nat):List Nat->Nat
 | []=>0
 | d::ds=>d+N*lE N ds
theorem xE {N:Nat} (hN:1<=N):∀ds:List Nat,(∀d∈ds,d<N)->lE N ds<N ^ ds.length
 | [],_=>by simp[lE]
 | d::ds,h=>by
  have h1:=h d (List.mem_cons_self ..);have h2:=xE hN ds λx hx=>h x (List.mem_cons_of_mem _ hx)
  rw[lE,List.length_cons,Nat.pow_succ];have h3:lE N ds+1<=N ^ ds.length:=h2;have h4:=Nat.mul_le_mul_left N h3;rw[Nat.mul_add,Nat.mul_one]at h4;rw[Nat.mul_comm (N ^ ds.length)];omega
theorem oU {N:Nat} (hN:1<=N):∀(ds:List Nat) (i:Nat),(∀d∈ds,d<N)->(h:i<ds.length)->sU N (lE N ds) i=ds[i]
 | d::ds,0,h,_=>by
  have h1:=h d (List.mem_cons_self ..);unfold sU;rw[lE,Nat.pow_zero,Nat.div_one,Nat.add_mul_mod_self_left,Nat.mod_eq_of_lt h1];rfl
 | d::ds,i+1,h,hi=>by
  have h1:=h d (List.mem_cons_self ..);have ih:=oU hN ds i (λx hx=>h x (List.mem_cons_of_mem _ hx)) (by simpa using hi);have e:(d+N*lE N ds) / N ^ (i+1)=lE N ds / N ^ i:=by
   rw[Nat.pow_succ,Nat.mul_comm (N ^ i) N,<-Nat.div_div_eq_div_mul,Nat.add_mul_div_left _ _ (by omega),Nat.div_eq_of_lt h1,Nat.zero_add]
  unfold sU at ih ⊢;rw[lE,e,ih];rfl
def aN3 (N:Nat)(vs:List Nat)(k:Nat)(E:List Int):Prop:=E.length=48/\(∀v∈E,0<=v/\v<(N:Int))/\∀i (h:i<vs.length),E[vs[i]]? =some ((sU N k i:Nat):Int)
theorem aL8 {N:Nat} {tab:List (List Int)} (hN:1<=N) {c:Cl} (hocc:∀j,pE j c=true->j<48)
 (h:∀k,k<N ^ (jS c).length->∃E,aN3 N (jS c) k E/\eQ (cN N tab) (dQ E) c):eH (cN N tab) c:=by
 intro env he;have hd:∀d∈((jS c).map λj:Nat=>(env (-1-(j:Int))).toNat),d<N:=by
  intro d hd;obtain⟨j,-,rfl⟩:=List.mem_map.1 hd;have h1:0<=env (-1-(j:Int))/\env (-1-(j:Int))<(N:Int):=he (-1-(j:Int)) (by omega);omega
 have hk:=xE hN _ hd;rw[List.length_map]at hk;obtain⟨E,⟨hE,hv,hdig⟩,hh⟩:=h _ hk;refine wQ _ (λj hj=>?_) hh;have hjv:j∈jS c:=(rV c j).2 ⟨hocc j hj,hj⟩;obtain⟨i,hi,e⟩:=List.mem_iff_getElem.1 hjv;have h2:=hdig i hi;rw[oU hN _ i hd (by rw[List.length_map];exact hi)]at h2;simp only[List.getElem_map,e]at h2;unfold dQ;rw[show (-1-(-1-(j:Int))).toNat=j by omega,h2];have h1:0<=env (-1-(j:Int)):=(he (-1-(j:Int)) (by omega)).1;show (((env (-1-(j:Int))).toNat:Nat):Int)=_
 omega
mutual
theorem vF:∀(t:Tm) (j:Nat),fM 48 t=true->mW j t=true->j<48
 | .mk f xs,j,h,ho=>by
  rw[fM]at h;rw[mW]at ho;by_cases hf:f<0
  . rw[if_pos hf,Bool.and_eq_true,decide_eq_true_eq]at h;rw[if_pos hf,decide_eq_true_eq]at ho;omega
  rw[if_neg hf]at h ho;exact xF xs j h ho
theorem xF:∀(xs:List Tm) (j:Nat),lD 48 xs=true->eG j xs=true->j<48
 | [],j,_,ho=>by rw[eG]at ho;cases ho
 | x::xs,j,h,ho=>by
  rw[lD,Bool.and_eq_true]at h;rw[eG,Bool.or_eq_true]at ho;rcases ho with ho | ho
  . exact vF x j h.1 ho
  exact xF xs j h.2 ho
end
end Go.Proofs.Ytiaoabfndnidiaa