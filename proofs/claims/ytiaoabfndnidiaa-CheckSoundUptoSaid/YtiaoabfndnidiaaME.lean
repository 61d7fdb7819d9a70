/-
 Part 5 of the proof over the checker:walks and plain laws.
-/
import Derived.Test.YtiaoabfndnidiaaMD
import Derived.Deep.LoopGhost
set_option maxRecDepth 100000
set_option maxHeartbeats 8000000
set_option linter.unusedSimpArgs false
set_option linter.unusedVariables false
namespace Go.Proofs.Ytiaoabfndnidiaa
open Go.RowKit
mutual
def cD:Tm->JS->Nat × JS
 | .mk f xs,s=>
  match (if f<0 then s.V f else none)with
  | some n=>(n,s)
  | none=>
   if f<0 then(s.T.length,⟨s.T++[.mk f xs],s.As++[[]],s.Ps++[s.T.length],λy=>if y=f then some s.T.length else s.V y⟩)
   else(s.T.length,⟨(aX xs ⟨s.T++[.mk f xs],s.As++[[]],s.Ps++[s.T.length],s.V⟩).2.T,(aX xs ⟨s.T++[.mk f xs],s.As++[[]],s.Ps++[s.T.length],s.V⟩).2.As.set s.T.length (aX xs ⟨s.T++[.mk f xs],s.As++[[]],s.Ps++[s.T.length],s.V⟩).1,
    (aX xs ⟨s.T++[.mk f xs],s.As++[[]],s.Ps++[s.T.length],s.V⟩).2.Ps,(aX xs ⟨s.T++[.mk f xs],s.As++[[]],s.Ps++[s.T.length],s.V⟩).2.V⟩)
def aX:List Tm->JS->List Nat × JS
 | [],s=>([],s)
 | x::xs,s=>((cD x s).1::(aX xs (cD x s).2).1,(aX xs (cD x s).2).2)
end
theorem pP (x:Tm):∀(xs:List Tm) (s:JS),aX (xs++[x]) s=((aX xs s).1++[(cD x (aX xs s).2).1],(cD x (aX xs s).2).2)
 | [],s=>by simp[aX]
 | y::ys,s=>by simp[aX,pP x ys (cD y s).2]
structure JS.Ok (s:JS):Prop where
 a:s.As.length=s.T.length
 p:s.Ps.length=s.T.length
 v:∀x n,s.V x=some n->n<s.T.length
 ax:∀l∈s.As,∀n∈l,n<s.T.length
mutual
theorem eW:∀(t:Tm) (s:JS),s.Ok->(cD t s).2.Ok/\s.T.length<=(cD t s).2.T.length/\(cD t s).2.T.length<=s.T.length+aK t/\(cD t s).1<(cD t s).2.T.length
 | .mk f xs,s,h=>by
  rw[cD];split
  . rename_i n hn
    split at hn
    . exact⟨h,Nat.le_refl _,by simp,h.v f n hn⟩
    cases hn
  rename_i hn
  have h0:(⟨s.T++[.mk f xs],s.As++[[]],s.Ps++[s.T.length],s.V⟩:JS).Ok:=⟨by simp[h.a],by simp[h.p],λx n e=>by have:=h.v x n e;simp;omega,λl hl n hn=>by
   rcases List.mem_append.1 hl with hl | hl
   . have:=h.ax l hl n hn;simp;omega
   simp at hl;subst hl;cases hn⟩
  split
  . refine⟨⟨h0.a,h0.p,?_,h0.ax⟩,by simp,by simp[aK],by simp⟩;intro x n e;simp only at e;split at e
    . simp at e;subst e;simp
    exact h0.v x n e
  obtain⟨h1,h2,h3,h4⟩:=iI xs _ h0;simp only[List.length_append,List.length_singleton]at h2 h3;refine⟨⟨by simp[h1.a],h1.p,h1.v,?_⟩,by simp only;omega,by simp only[aK];omega,by simp only;omega⟩;intro l hl n hn;rcases List.mem_or_eq_of_mem_set hl with hl | rfl
  . exact h1.ax l hl n hn
  exact h4 n hn
theorem iI:∀(xs:List Tm) (s:JS),s.Ok->(aX xs s).2.Ok/\s.T.length<=(aX xs s).2.T.length/\(aX xs s).2.T.length<=s.T.length+aI xs/\∀n∈(aX xs s).1,n<(aX xs s).2.T.length
 | [],s,h=>by simp[aX,h]
 | x::xs,s,h=>by
  obtain⟨h1,h2,h3,h4⟩:=eW x s h;obtain⟨k1,k2,k3,k4⟩:=iI xs _ h1;rw[aX];refine⟨k1,by simp only;omega,by simp only[aI];omega,?_⟩;intro n hn;rcases List.mem_cons.1 hn with rfl | hn
  . simp only;omega
  exact k4 n hn
end
theorem kI:∀(xs:List Tm) (s:JS),(aX xs s).1.length=xs.length
 | [],s=>rfl
 | x::xs,s=>by simp[aX,kI xs]
def aN0 (B:Nat)(X:Nat->Prop)(bj gm:Nat)(r:Nat × JS)(vt va vp:Value)(w:World)(e:Ending)(w':World):Prop:=e=.returned (.int .i64 (r.1:Nat))/\aO6 B X bj gm r.2 vt va vp w w'
theorem aM6 {X:Nat->Prop} {B bj gm:Nat} {s:JS} {vt va vp:Value} {w:World} (h:JR B X bj gm s vt va vp w)(x:Int):
 (Instr.lookup 94 (.map (some gm)) (.int .i64 x) true).run Try.prog w=.ok (.tuple #[((s.V x).map dJ).getD (.int .i64 0),.bool (s.V x).isSome]) w:=by
 have:=h.hm.lookup_ok fT Try.underlying94 (aK2 w) x;simpa [cE]using this
theorem aM9:SliceTy Try.prog 132 87 2 32:=jI Try.underlying132 (by kernel_rfl:(Try.prog.info? 87).map (λi=>(i.zero,i.size,i.bytes))=some (some (.agg #[.int .i64 0,.slice none 0 0]),2,32)) rfl (by decide)
theorem nsT:SliceTy Try.prog 41 3 1 8:=jI Try.underlying41 (by kernel_rfl:(Try.prog.info? 3).map (λi=>(i.zero,i.size,i.bytes))=some (some (.int .i64 0),1,8)) rfl (by decide)
theorem aP2:SliceTy Try.prog 25 41 1 24:=jI Try.underlying25 (by kernel_rfl:(Try.prog.info? 41).map (λi=>(i.zero,i.size,i.bytes))=some (some (.slice none 0 0),1,24)) rfl (by decide)
theorem zU (B bj gm:Nat)(d:Nat):∀(X:Nat->Prop) (f:Int) (xs:List Tm) (v:Value) (s:JS) (vt va vp:Value) (w:World),aI xs<d->Rd w B (.sl 2 (aH xs)) v->JR B X bj gm s vt va vp w->s.Ok->s.T.length+aI xs<=1000000->
 Calls Try.prog 88 #[.pointer (some ⟨bj,0,none⟩),.agg #[.int .i64 f,v]] w (aN0 B X bj gm (cD (.mk f xs) s) vt va vp w):=by
 induction d with
 | zero=>intro X f xs v s vt va vp w h;omega
 | succ d ih=>
 intro X f xs v s vt va vp w hd hr hj hok hz;obtain⟨A,c,rfl,hc,hn,hm⟩:=hr.tm_form;have hbj:=(hj.own bj (.inl rfl)).2;have hjB:=hj.hB;have HR:=Lh hr;have HJ:=Lh hj;have Hih:=Lh ih;clear hr hj ih;obtain⟨hx0,hB0,hz0⟩:=pT w (.cells #[.int .i64 f,.slice A xs.length c] 87);by_cases hneg:f<0
 . cases hV:s.V f with
   | some n=>
    have hres:cD (.mk f xs) s=(n,s):=(by rw[cD];simp[hneg,hV]);rw[hres];have hjn:=λw' (h:JR B X bj gm s vt va vp w')=>aM6 h f
    simp only[hV,Option.map_some,Option.getD_some,Option.isSome_some]at hjn;have Hjn:=Lh hjn;clear hres hjn hV;go_enter Try.func88,Try.ntmps88;go_upto_region 2 with fail
    generalize w.alloc (.cells #[.int .i64 f,.slice A xs.length c] 87)=w0 at hx0 hB0 hz0 ⊢;have hj0:=HJ.out.low hB0;have hbx0:aL w.heap.size 87 (.int .i64 f) (.slice A xs.length c) w0:=hx0;have Hj0:=Lh hj0;have Hbx0:=Lh hbx0;have HB0:=Lh hB0;clear hj0 hbx0 hx0 hB0;refine rg 12 (λ_ w'=>JR B X bj gm s vt va vp w'/\aL w.heap.size 87 (.int .i64 f) (.slice A xs.length c) w') ?_;intro wd hwd hbd;refine⟨?_,λhS=>?_⟩
    . exact⟨Hj0.out.low (hwd ▸ hbd),Hbx0.out.low (hwd ▸ hbd)⟩
    refine ta 0 (.pointer (some ⟨bj,0,none⟩)) hS λhS=>?_
    refine ta 1 (.pointer (some ⟨bj,0,none⟩)) hS λhS=>?_
    refine ta 2 (.pointer (some ⟨bj,3,none⟩)) hS λhS=>?_
    refine tk 3 (.map (some gm)) hS ?_ λhS=>?_
    . intro w' L hn hw;have o0:=hw.1.cells.2.2.2.1;simp[execOp,go_sem,o0]
    refine ta 4 (.pointer (some ⟨w.heap.size,0,none⟩)) hS λhS=>?_
    refine tk 5 (.int .i64 f) hS ?_ λhS=>?_
    . intro w' L hn hw;have o1:=hw.2.cells.1;simp[execOp,go_sem,o1]
    refine tk 6 (.tuple #[dJ n,.bool true]) hS ?_ λhS=>?_
    . intro w' L hn hw;have o2:=Hjn.out _ hw.1;simp[execOp,go_sem,o2]
    refine ta 7 (.tuple #[dJ n,.bool true]) hS λhS=>?_
    refine ta 8 (dJ n) hS λhS=>?_
    refine ta 9 (.bool true) hS λhS=>?_
    refine ta 10 (dJ n) hS λhS=>?_
    refine ta 11 (.bool true) hS λhS=>?_
    refine dn ?_;have Hw:=Lh hS;have Hbd:=Lh hbd;clear hS hbd;go_wp2_with fail;go_ret;refine⟨rfl,_,_,_,Hw.out.1,JGrow.low (HB0.out.trans (Hbd.out.mono (by omega)))⟩
   | none=>
    have hjn:=λw' (h:JR B X bj gm s vt va vp w')=>aM6 h f
    simp only[hV,Option.map_none,Option.getD_none,Option.isSome_none]at hjn;have hres:cD (.mk f xs) s=(s.T.length,⟨s.T++[.mk f xs],s.As++[[]],s.Ps++[s.T.length],λy=>if y=f then some s.T.length else s.V y⟩):=(by rw[cD];simp[hneg,hV]);rw[hres];have Hjn:=Lh hjn;clear hres hjn hV;go_enter Try.func88,Try.ntmps88;go_upto_region 2 with fail
    generalize w.alloc (.cells #[.int .i64 f,.slice A xs.length c] 87)=w0 at hx0 hB0 hz0 ⊢;have hj0:=HJ.out.low hB0;have hbx0:aL w.heap.size 87 (.int .i64 f) (.slice A xs.length c) w0:=hx0;have Hj0:=Lh hj0;have Hbx0:=Lh hbx0;have HB0:=Lh hB0;clear hj0 hbx0 hx0 hB0;refine rg 12 (λ_ w'=>JR B X bj gm s vt va vp w'/\aL w.heap.size 87 (.int .i64 f) (.slice A xs.length c) w') ?_;intro wd hwd hbd;refine⟨?_,λhS=>?_⟩
    . exact⟨Hj0.out.low (hwd ▸ hbd),Hbx0.out.low (hwd ▸ hbd)⟩
    refine ta 0 (.pointer (some ⟨bj,0,none⟩)) hS λhS=>?_
    refine ta 1 (.pointer (some ⟨bj,0,none⟩)) hS λhS=>?_
    refine ta 2 (.pointer (some ⟨bj,3,none⟩)) hS λhS=>?_
    refine tk 3 (.map (some gm)) hS ?_ λhS=>?_
    . intro w' L hn hw;have o0:=hw.1.cells.2.2.2.1;simp[execOp,go_sem,o0]
    refine ta 4 (.pointer (some ⟨w.heap.size,0,none⟩)) hS λhS=>?_
    refine tk 5 (.int .i64 f) hS ?_ λhS=>?_
    . intro w' L hn hw;have o1:=hw.2.cells.1;simp[execOp,go_sem,o1]
    refine tk 6 (.tuple #[.int .i64 0,.bool false]) hS ?_ λhS=>?_
    . intro w' L hn hw;have o2:=Hjn.out _ hw.1;simp[execOp,go_sem,o2]
    refine ta 7 (.tuple #[.int .i64 0,.bool false]) hS λhS=>?_
    refine ta 8 (.int .i64 0) hS λhS=>?_
    refine ta 9 (.bool false) hS λhS=>?_
    refine ta 10 (.int .i64 0) hS λhS=>?_
    refine ta 11 (.bool false) hS λhS=>?_
    refine dn ?_;obtain⟨hj2,hbx2⟩:=hS;have hzd:=hbd.size;have hbw2:Below w.heap.size w wd:=HB0.out.trans (hbd.mono (by omega));have hHR2:=HR.out.low hbw2 (by omega);obtain⟨o0,o1,o2,o3,o4⟩:=hj2.cells;obtain⟨m0,m1,-⟩:=hbx2.cells;generalize wd=w2 at*;have Hj2:=Lh hj2;have Hbx2:=Lh hbx2;have HBW2:=Lh hbw2;have HR2:=Lh hHR2;have hB2:B<=w2.heap.size:=(by have:=hbw2.size;omega);clear hj2 hbx2 hbw2 hHR2 hwd hbd Hj0 Hbx0 HB0;-- the terms' row
    have hvt:∃At ct,vt=.slice At s.T.length ct:=by
     obtain⟨rt,ht,ht1,_⟩:=HJ.out.ht;obtain⟨At,ct,e,_⟩:=ht.form;exact⟨At,ct,by rw[e,ht1]⟩
    obtain⟨At,ct,rfl⟩:=hvt;go_upto_region 6 with fail
    have hb8:¬((s.T.length:Int)+1<=(s.T.length:Int)):=(by omega);refine rg 13 (λL w'=>L.getD 7 false=false->JR B X bj gm s (.slice At s.T.length ct) va vp w'/\aL w.heap.size 87 (.int .i64 f) (.slice A xs.length c) w'/\Below w2.heap.size w2 w') ?_;intro wd hwd hbd;refine⟨?_,λhS=>?_⟩
    . exact λ_=>⟨Hj2.out.low (hwd ▸ hbd),Hbx2.out.low (hwd ▸ hbd),hwd ▸ hbd⟩
    refine ta 0 (.pointer (some ⟨bj,0,none⟩)) hS (λhS=>?_) (hins:=λL w=>by simp only[aB (l:=L) (i:=0) (k:=7) (by decide)]);refine ta 1 (.pointer (some ⟨bj,0,none⟩)) hS (λhS=>?_) (hins:=λL w=>by simp only[aB (l:=L) (i:=1) (k:=7) (by decide)]);refine tk 2 (.pointer (some ⟨bj,0,none⟩)) hS ?_ (λhS=>?_) (hins:=λL w=>by simp only[aB (l:=L) (i:=2) (k:=7) (by decide)])
    . intro w' L hn hw;have n7:=hn.flag 7 (by kernel_rfl);simp[execOp,go_sem]
    refine tk 3 (.slice At s.T.length ct) hS ?_ (λhS=>?_) (hins:=λL w=>by simp only[aB (l:=L) (i:=3) (k:=7) (by decide)])
    . intro w' L hn hw;have n7:=hn.flag 7 (by kernel_rfl);have hw:=hw n7;have o0:=hw.1.cells.1;simp[execOp,go_sem,o0]
    refine tk 4 (.agg #[.int .i64 f,.slice A xs.length c]) hS ?_ (λhS=>?_) (hins:=λL w=>by simp only[aB (l:=L) (i:=4) (k:=7) (by decide)])
    . intro w' L hn hw;have n7:=hn.flag 7 (by kernel_rfl);have hw:=hw n7;have o1:=hw.2.1.cells.1;have o2:=hw.2.1.cells.2.1;simp[execOp,go_sem,o1,o2]
    refine tk 5 (.int .i64 (s.T.length:Nat)) hS ?_ (λhS=>?_) (hins:=λL w=>by simp only[aB (l:=L) (i:=5) (k:=7) (by decide)])
    . intro w' L hn hw;have n7:=hn.flag 7 (by kernel_rfl);simp[execOp,go_sem]
    refine so 6 ?_;refine aE (v:=.slice (some ⟨wd.heap.size,0,none⟩) 1 1) (w':=wd.alloc (.cells #[.int .i64 0,.slice none 0 0] 87)) (by simp[execOp,go_sem]) ?_;refine gS ?_ λhS=>?_
    . exact λh=>⟨(hS h).1.low (aD _ _),(hS h).2.1.low (aD _ _),(hS h).2.2.trans ((aD _ _).mono (hS h).2.2.size)⟩
    refine sl 7 ?_;have hs7:=hS rfl;obtain⟨rt,ht,ht1,ht2⟩:=hs7.1.ht;refine bN _ rfl (.tmp 34) (.tmp 37) _ rfl aM9 (base:=B) (v:=.slice At s.T.length ct) (rows:=rt) (by simp[go_sem]) ht (g:=wd.heap.size) (by simp[go_sem]) (heap_alloc_new wd _) rfl (by intro y hy;simp at hy;rcases hy with rfl | rfl <;> rfl) (by rw[ht1];omega) (by rw[ht1];unfold maxLen;omega) (by have:=hs7.1.hB;have:=(hs7.1.own bj (.inl rfl)).2;omega) ?_;intro v7 w7 hown7 hup7 hat7;have hz7:=hup7.size;obtain⟨A7,c2,hv7,_,hc7⟩:=hown7.form;have hl7:(rt++[#[Value.int .i64 0,Value.slice none 0 0].toList]).length=s.T.length+1:=(by simp[ht1]);rw[hl7]at hv7;subst hv7;have hown7':=hown7;obtain⟨g,rfl,hgB,hg7,hcell7,hfr7⟩:=hown7'.row_at (k:=s.T.length) (by omega) (by decide);have q0:=hcell7 0 (by decide);have q1:=hcell7 1 (by decide);have r0:=hfr7 0 (by decide);have r1:=hfr7 1 (by decide);rw[Nat.add_zero]at q0 r0;have hbx7:=hs7.1.box;have hpush:=hs7.1.pushT (Below.refl _ _) (t:=.mk f xs) ⟨ht1,ht2⟩ hown7 hup7 (by rcases hat7 with e | e;exact .inl e;exact .inr (by injection e)) (HR2.out.low hs7.2.2 hB2);simp only[Tm.fn,Tm.args]at hpush;have hdis:=hs7.1.dis;have hbb7:w7.heap[bj]? =some (.cells #[.slice At s.T.length ct,va,vp,.map (some gm)] 134 (0,0)):=(hup7.block bj (hs7.1.own bj (.inl rfl)).2 hdis.tb).trans hbx7;have hgb:g≠bj:=by
     rcases hat7 with e | e
     . intro e2;subst e2;exact hdis.tb e.symm
     injection e with e
     simp only at e;have:=(hs7.1.own bj (.inl rfl)).2;omega
    have p0:w7.cell? ⟨bj,0,none⟩=some (.slice At s.T.length ct):=(by rw[cell_of_row w7 bj 0 _ _ _ hbb7];rfl);have p1:=frozen_of_row w7 bj 0 _ _ hbb7;have hgrow7:=hup7;have hb6:=hs7.2.1;have hb6b:=hs7.2.2;refine gL ?_ λhS=>?_
    . intro h;cases h
    refine tk 8 (.pointer (some ⟨g,s.T.length*2,none⟩)) hS ?_ (λhS=>?_) (hins:=λL w=>by simp only[aB (l:=L) (i:=8) (k:=7) (by decide)])
    . intros;simp[execOp,go_sem,hb8]
    refine ta 10 (.pointer (some ⟨bj,0,none⟩)) hS (λhS=>?_) (hins:=λL w=>by simp only[aB (l:=L) (i:=10) (k:=7) (by decide)]);refine ta 11 (.pointer (some ⟨bj,0,none⟩)) hS (λhS=>?_) (hins:=λL w=>by simp only[aB (l:=L) (i:=11) (k:=7) (by decide)]);refine lI 9 12 (o1:={dst:=none,op:=Op.store 87 (Operand.tmp 39) (Operand.tmp 35),type:=0,pos:= "unify.go:25",after:= #[{on:=8,ground:=Ground.data},{on:=4,ground:=Ground.data},{on:=7,ground:=Ground.chain},{on:=0,ground:=Ground.phase},{on:=1,ground:=Ground.phase},{on:=2,ground:=Ground.phase},{on:=3,ground:=Ground.phase},{on:=4,ground:=Ground.phase},{on:=5,ground:=Ground.phase},{on:=6,ground:=Ground.phase},{on:=7,ground:=Ground.phase},{on:=12,ground:=Ground.gcOnly Departure.appendInPlace}],guard:=none}) (o2:={dst:=none,op:=Op.store 132 (Operand.tmp 41) (Operand.tmp 38),type:=0,pos:= "unify.go:25",after:= #[{on:=11,ground:=Ground.data},{on:=7,ground:=Ground.data},{on:=7,ground:=Ground.chain},{on:=9,ground:=Ground.textOnly Departure.appendInPlace},{on:=0,ground:=Ground.phase},{on:=1,ground:=Ground.phase},{on:=2,ground:=Ground.phase},{on:=3,ground:=Ground.phase},{on:=4,ground:=Ground.phase},{on:=5,ground:=Ground.phase},{on:=6,ground:=Ground.phase},{on:=7,ground:=Ground.phase},{on:=8,ground:=Ground.textOnly Departure.appendInPlace},{on:=9,ground:=Ground.textOnly Departure.appendInPlace}],guard:=none}) (L':= #[true,true,true,true,true,true,true,true,true,true,true,true,true]) (wA:=((w7.setCell ⟨g,s.T.length*2,none⟩ (.int .i64 f)).setCell ⟨g,s.T.length*2+1,none⟩ (.slice A xs.length c))) (wAB:=(((w7.setCell ⟨g,s.T.length*2,none⟩ (.int .i64 f)).setCell ⟨g,s.T.length*2+1,none⟩ (.slice A xs.length c)).setCell ⟨bj,0,none⟩ (.slice (some ⟨g,0,none⟩) (s.T.length+1) c2))) (wB:=(w7.setCell ⟨bj,0,none⟩ (.slice (some ⟨g,0,none⟩) (s.T.length+1) c2))) (wBA:=(((w7.setCell ⟨bj,0,none⟩ (.slice (some ⟨g,0,none⟩) (s.T.length+1) c2)).setCell ⟨g,s.T.length*2,none⟩ (.int .i64 f)).setCell ⟨g,s.T.length*2+1,none⟩ (.slice A xs.length c))) (by kernel_rfl) (by kernel_rfl) (by kernel_rfl) rfl rfl rfl rfl (by rfl) (by rfl) rfl rfl ?r1 ?r12 ?r2 ?r21 ?heq ?s1 ?s2 ?s12 λhS=>?_
    case r1=>simp[execOp,go_sem,q0,q1,r0,r1]
    case r12=>
     have hbA:=((aM (w:=w7.setCell ⟨g,s.T.length*2,none⟩ (.int .i64 f)) (b:=g) (o:=s.T.length*2+1) (.slice A xs.length c)).block bj (by have:=(Array.getElem?_eq_some_iff.1 hbb7).1;simpa [World.setCell]using this) (Ne.symm hgb)).trans (((aM (w:=w7) (b:=g) (o:=s.T.length*2) (.int .i64 f)).block bj (Array.getElem?_eq_some_iff.1 hbb7).1 (Ne.symm hgb)).trans hbb7);generalize (w7.setCell ⟨g,s.T.length*2,none⟩ (.int .i64 f)).setCell ⟨g,s.T.length*2+1,none⟩ (.slice A xs.length c)=wA at hbA ⊢;have x0:wA.cell? ⟨bj,0,none⟩=some (.slice At s.T.length ct):=(by rw[cell_of_row wA bj 0 _ _ _ hbA];rfl);have x1:=frozen_of_row wA bj 0 _ _ hbA;simp[execOp,go_sem,x0,x1]
    case r2=>simp[execOp,go_sem,p0,p1]
    case r21=>
     have hoB:=hown7.upd (aM (w:=w7) (b:=bj) (o:=0) (.slice (some ⟨g,0,none⟩) (s.T.length+1) c2)) (λb e e2=>hgb (by injection e with e;exact e.trans e2));generalize w7.setCell ⟨bj,0,none⟩ (.slice (some ⟨g,0,none⟩) (s.T.length+1) c2)=wB at hoB ⊢;obtain⟨g',hg',-,-,hcB,hfB⟩:=hoB.row_at (k:=s.T.length) (by omega) (by decide);injection hg' with hg'
     injection hg' with hg' _ _
     subst hg';have y0:=hcB 0 (by decide);have y1:=hcB 1 (by decide);have z0:=hfB 0 (by decide);have z1:=hfB 1 (by decide);rw[Nat.add_zero]at y0 z0;simp[execOp,go_sem,y0,y1,z0,z1]
    case heq=>
     rw[gF w7 ⟨bj,0,none⟩ ⟨g,s.T.length*2,none⟩ _ _ (Ne.symm hgb),gF _ ⟨bj,0,none⟩ ⟨g,s.T.length*2+1,none⟩ _ _ (Ne.symm hgb)]
    case s1=>intro h;cases h
    case s2=>intro h;cases h
    case s12=>intro h;cases h
    refine dn ?_;obtain⟨hj3,hgr3⟩:=hpush;have hnb3:¬JF bj gm (.slice At s.T.length ct) va vp w.heap.size:=λe=>by have:=(HJ.out.own _ e).2;omega
    have hbx3:aL w.heap.size 87 (.int .i64 f) (.slice A xs.length c) (((w7.setCell ⟨g,s.T.length*2,none⟩ (.int .i64 f)).setCell ⟨g,s.T.length*2+1,none⟩ (.slice A xs.length c)).setCell ⟨bj,0,none⟩ (.slice (some ⟨g,0,none⟩) (s.T.length+1) c2)):=hb6.upd hgr3.upd hnb3;have hgr03:JGrow bj gm (.slice At s.T.length ct) va vp (.slice (some ⟨g,0,none⟩) (s.T.length+1) c2) va vp w2 _:=(JGrow.low hb6b).trans hgr3;generalize (((w7.setCell ⟨g,s.T.length*2,none⟩ (.int .i64 f)).setCell ⟨g,s.T.length*2+1,none⟩ (.slice A xs.length c)).setCell ⟨bj,0,none⟩ (.slice (some ⟨g,0,none⟩) (s.T.length+1) c2))=w3 at hj3 hbx3 hgr03 ⊢;have Hj3:=Lh hj3;have Hbx3:=Lh hbx3;have Hgr3:=Lh hgr03;have hzw:=HBW2.out.size;have hzw3:=hgr03.upd.size;clear hj3 hbx3 hgr03 hgr3 hnb3 q0 q1 r0 r1 p0 p1 hbb7 hdis hbx7 hfr7 hcell7 hown7 hup7 hat7 hgrow7 hb6 hb6b hwd hbd hS ht ht2 hs7 o0 o1 o2 o3 o4 m0 m1;obtain⟨-,-,a2,-,a4⟩:=Hj3.out.cells;go_upto_region 8 with(
     at_builtin
     refine bN _ rfl (.tmp 46) (.tmp 48) _ rfl nsT (base:=B) (v:=vp) (rows:=s.Ps.map λn=>[dJ n]) rfl (Hj3.out.hp.alloc _) (g:=w3.heap.size) (cells:= #[.int .i64 (s.T.length:Nat)]) rfl (heap_alloc_new w3 _) rfl (by intro y hy;simp at hy;rcases hy with rfl;rfl) (by rw[List.length_map,hok.p];omega) (by rw[List.length_map,hok.p];unfold maxLen;omega) (by simp;omega) ?_;intro v4 w4 hown4 hup4 hat4;obtain⟨A4,c4,hv4,-,-⟩:=hown4.form;rw[show (s.Ps.map (λn=>[dJ n])++[#[Value.int .i64 (s.T.length:Nat)].toList]).length=s.T.length+1 by simp[hok.p]]at hv4;subst hv4;have hp4:=Hj3.out.pushP (n:=s.T.length) (aD w3 _) hown4 hup4 hat4;have hb4:w4.heap[bj]? =some (.cells #[.slice (some ⟨g,0,none⟩) (s.T.length+1) c2,va,vp,.map (some gm)] 134 (0,0)):=(hup4.block bj (by simp;omega) Hj3.out.dis.pb).trans (((aD w3 _).block bj (by omega)).trans Hj3.out.box);have x0:w4.cell? ⟨bj,2,none⟩=some vp:=(by rw[cell_of_row w4 bj 2 _ _ _ hb4];rfl);have x1:=frozen_of_row w4 bj 2 _ _ hb4;have HP4:=Lh hp4;clear hp4 hb4 hown4 hup4 hat4)
    clear a2 a4;obtain⟨hj5,hgr5⟩:=HP4.out;generalize w4.setCell ⟨bj,2,none⟩ (.slice A4 (s.T.length+1) c4)=w5 at hj5 hgr5 ⊢;have hz5:=hgr5.upd.size;have Hj5:=Lh hj5;have Hgr5:=Lh (Hgr3.out.trans hgr5);clear hj5 hgr5 HP4 x0 x1;obtain⟨-,a2,-,-,a4⟩:=Hj5.out.cells;obtain⟨us,hus,hus1,hus2⟩:=Hj5.out.ha;have Hus:=Lh hus;have Hus2:=Lh hus2;have hus3:us.length=s.T.length:=hus1.trans hok.a;clear hus hus2;go_upto_region 9 with(
     at_builtin
     refine bN _ rfl (.tmp 56) (.tmp 57) _ rfl aP2 (base:=B) (v:=va) (rows:=us.map λu=>[u]) rfl (Hus.out.alloc _) (g:=w5.heap.size) (cells:= #[.slice none 0 0]) rfl (heap_alloc_new w5 _) rfl (by intro y hy;simp at hy;rcases hy with rfl;rfl) (by rw[List.length_map,hus3];omega) (by rw[List.length_map,hus3];unfold maxLen;omega) (by simp;omega) ?_;intro v6 w6 hown6 hup6 hat6;obtain⟨A6,c6,hv6,-,-⟩:=hown6.form;rw[show (us.map (λu=>[u])++[#[Value.slice none 0 0].toList]).length=s.T.length+1 by simp[hus3]]at hv6;subst hv6;have hp6:=Hj5.out.pushA (aD w5 _) ⟨hus1,Hus2.out⟩ hown6 hup6 hat6;have hb6:w6.heap[bj]? =some (.cells #[.slice (some ⟨g,0,none⟩) (s.T.length+1) c2,va,.slice A4 (s.T.length+1) c4,.map (some gm)] 134 (0,0)):=(hup6.block bj (by simp;omega) Hj5.out.dis.ab).trans (((aD w5 _).block bj (by omega)).trans Hj5.out.box);have x0:w6.cell? ⟨bj,1,none⟩=some va:=(by rw[cell_of_row w6 bj 1 _ _ _ hb6];rfl);have x1:=frozen_of_row w6 bj 1 _ _ hb6;have HP6:=Lh hp6;clear hp6 hb6 hown6 hup6 hat6)
    obtain⟨hj8,hgr8⟩:=HP6.out;generalize w6.setCell ⟨bj,1,none⟩ (.slice A6 (s.T.length+1) c6)=w8 at hj8 hgr8 ⊢;have hnb3:¬JF bj gm (.slice At s.T.length ct) va vp w.heap.size:=λe=>by have:=(HJ.out.own _ e).2;omega
    have hgr8':=Hgr5.out.trans hgr8;have hz8:=hgr8'.upd.size;have hbx8:aL w.heap.size 87 (.int .i64 f) (.slice A xs.length c) w8:=Hbx2.out.upd hgr8'.upd hnb3;have Hj8:=Lh hj8;have Hgr8:=Lh hgr8';have Hbx8:=Lh hbx8;clear hj8 hgr8 hgr8' hbx8 HP6 x0 x1 a2 a4 Hus Hus2 Hgr5 Hgr3 Hj5 Hj3 Hbx3 Hj2;obtain⟨m0,m1,-⟩:=Hbx8.out.cells;go_upto_region 10 with fail
    refine rg 8 (λL w'=>L.getD 7 false=false->JR B X bj gm ⟨s.T++[.mk f xs],s.As++[[]],s.Ps++[s.T.length],s.V⟩ (.slice (some ⟨g,0,none⟩) (s.T.length+1) c2) (.slice A6 (s.T.length+1) c6) (.slice A4 (s.T.length+1) c4) w'/\aL w.heap.size 87 (.int .i64 f) (.slice A xs.length c) w'/\Below w8.heap.size w8 w') ?_;intro wd hwd hbd;refine⟨?_,λhS=>?_⟩
    . exact λ_=>⟨Hj8.out.low (hwd ▸ hbd),Hbx8.out.low (hwd ▸ hbd),hwd ▸ hbd⟩
    refine ta 0 (.pointer (some ⟨bj,0,none⟩)) hS (λhS=>?_) (hins:=λL w=>by simp only[aB (l:=L) (i:=0) (k:=7) (by decide)]);refine ta 1 (.pointer (some ⟨bj,0,none⟩)) hS (λhS=>?_) (hins:=λL w=>by simp only[aB (l:=L) (i:=1) (k:=7) (by decide)]);refine tk 2 (.pointer (some ⟨bj,3,none⟩)) hS ?_ (λhS=>?_) (hins:=λL w=>by simp only[aB (l:=L) (i:=2) (k:=7) (by decide)])
    . intro w' L hn hw;have n7:=hn.flag 7 (by kernel_rfl);simp[execOp,go_sem]
    refine tk 3 (.map (some gm)) hS ?_ (λhS=>?_) (hins:=λL w=>by simp only[aB (l:=L) (i:=3) (k:=7) (by decide)])
    . intro w' L hn hw;have n7:=hn.flag 7 (by kernel_rfl);have hw:=hw n7;have o0:=hw.1.cells.2.2.2.1;simp[execOp,go_sem,o0]
    refine tk 4 (.pointer (some ⟨w.heap.size,0,none⟩)) hS ?_ (λhS=>?_) (hins:=λL w=>by simp only[aB (l:=L) (i:=4) (k:=7) (by decide)])
    . intro w' L hn hw;have n7:=hn.flag 7 (by kernel_rfl);simp[execOp,go_sem]
    refine tk 5 (.int .i64 f) hS ?_ (λhS=>?_) (hins:=λL w=>by simp only[aB (l:=L) (i:=5) (k:=7) (by decide)])
    . intro w' L hn hw;have n7:=hn.flag 7 (by kernel_rfl);have hw:=hw n7;have o1:=hw.2.1.cells.1;simp[execOp,go_sem,o1]
    refine ta 6 (.int .i64 (s.T.length:Nat)) hS (λhS=>?_) (hins:=λL w=>by simp only[aB (l:=L) (i:=6) (k:=7) (by decide)]);refine so 7 ?_;have hs9:=hS rfl;refine fD (g:=gm) (.tmp 67) (.tmp 69) (.tmp 70) rfl fT Try.underlying94 (by simp[go_sem]) f (by simp[go_sem,cE]) (.int .i64 (s.T.length:Nat)) (by simp[go_sem]) hs9.1.hm ?_;intro w9 hm9 hu9;refine gS ?_ λhS=>?_
    . intro h;cases h
    refine dn ?_;have hm9':bK w9 gm cE (λx=>((if x=f then some s.T.length else s.V x)).map dJ):=hm9.congr λx=>by
     by_cases hx:x=f
     . simp[hx,dJ]
     simp[hx]
    have hj9:=hs9.1.setM hu9 hm9';have hgr9:JGrow bj gm (.slice (some ⟨g,0,none⟩) (s.T.length+1) c2) (.slice A6 (s.T.length+1) c6) (.slice A4 (s.T.length+1) c4) _ _ _ wd w9:=⟨hu9.more λi e=>.inl (.inr (.inl e)),λg e=>.inl e⟩;have Hj9:=Lh hj9;have Hgr9:=Lh ((Hgr8.out.trans (JGrow.low hs9.2.2)).trans hgr9);clear hj9 hgr9 hm9 hm9' hu9 hs9 hS;go_wp2_with fail;go_ret;exact⟨rfl,_,_,_,Hj9.out,(JGrow.low HBW2.out).trans Hgr9.out⟩
 obtain⟨s1,hs1⟩:∃s1:JS,s1=⟨s.T++[.mk f xs],s.As++[[]],s.Ps++[s.T.length],s.V⟩:=⟨_,rfl⟩;have hres:cD (.mk f xs) s=(s.T.length,⟨(aX xs s1).2.T,(aX xs s1).2.As.set s.T.length (aX xs s1).1,(aX xs s1).2.Ps,(aX xs s1).2.V⟩):=by rw[cD,hs1];simp[hneg]
 rw[hres];have hok1:s1.Ok:=by
  rw[hs1];exact⟨by simp[hok.a],by simp[hok.p],λx n e=>by have:=hok.v x n e;simp;omega,λl hl n hn=>by
   rcases List.mem_append.1 hl with hl | hl
   . have:=hok.ax l hl n hn;simp;omega
   simp at hl;subst hl;cases hn⟩
 have hs1l:s1.T.length=s.T.length+1:=by rw[hs1];simp
 have Hs1:=Lh hs1;clear hres hs1;go_enter Try.func88,Try.ntmps88;go_upto_region 5 with fail
 generalize w.alloc (.cells #[.int .i64 f,.slice A xs.length c] 87)=w2 at hx0 hB0 hz0 ⊢;have hj2:=HJ.out.low hB0;have hbx2:aL w.heap.size 87 (.int .i64 f) (.slice A xs.length c) w2:=hx0;have hHR2:=HR.out.low hB0 (by omega);obtain⟨o0,o1,o2,o3,o4⟩:=hj2.cells;obtain⟨m0,m1,-⟩:=hbx2.cells;have Hj2:=Lh hj2;have Hbx2:=Lh hbx2;have HBW2:=Lh hB0;have HR2:=Lh hHR2;have hB2:B<=w2.heap.size:=by omega
 clear hj2 hbx2 hB0 hHR2 hx0;-- the terms' row
 have hvt:∃At ct,vt=.slice At s.T.length ct:=by
  obtain⟨rt,ht,ht1,_⟩:=HJ.out.ht;obtain⟨At,ct,e,_⟩:=ht.form;exact⟨At,ct,by rw[e,ht1]⟩
 obtain⟨At,ct,rfl⟩:=hvt;go_upto_region 6 with fail
 have hb8:¬((s.T.length:Int)+1<=(s.T.length:Int)):=by omega
 refine rg 13 (λL w'=>L.getD 7 false=false->JR B X bj gm s (.slice At s.T.length ct) va vp w'/\aL w.heap.size 87 (.int .i64 f) (.slice A xs.length c) w'/\Below w2.heap.size w2 w') ?_;intro wd hwd hbd;refine⟨?_,λhS=>?_⟩
 . exact λ_=>⟨Hj2.out.low (hwd ▸ hbd),Hbx2.out.low (hwd ▸ hbd),hwd ▸ hbd⟩
 refine ta 0 (.pointer (some ⟨bj,0,none⟩)) hS (λhS=>?_) (hins:=λL w=>by simp only[aB (l:=L) (i:=0) (k:=7) (by decide)]);refine ta 1 (.pointer (some ⟨bj,0,none⟩)) hS (λhS=>?_) (hins:=λL w=>by simp only[aB (l:=L) (i:=1) (k:=7) (by decide)]);refine tk 2 (.pointer (some ⟨bj,0,none⟩)) hS ?_ (λhS=>?_) (hins:=λL w=>by simp only[aB (l:=L) (i:=2) (k:=7) (by decide)])
 . intro w' L hn hw;have n7:=hn.flag 7 (by kernel_rfl);simp[execOp,go_sem]
 refine tk 3 (.slice At s.T.length ct) hS ?_ (λhS=>?_) (hins:=λL w=>by simp only[aB (l:=L) (i:=3) (k:=7) (by decide)])
 . intro w' L hn hw;have n7:=hn.flag 7 (by kernel_rfl);have hw:=hw n7;have o0:=hw.1.cells.1;simp[execOp,go_sem,o0]
 refine tk 4 (.agg #[.int .i64 f,.slice A xs.length c]) hS ?_ (λhS=>?_) (hins:=λL w=>by simp only[aB (l:=L) (i:=4) (k:=7) (by decide)])
 . intro w' L hn hw;have n7:=hn.flag 7 (by kernel_rfl);have hw:=hw n7;have o1:=hw.2.1.cells.1;have o2:=hw.2.1.cells.2.1;simp[execOp,go_sem,o1,o2]
 refine tk 5 (.int .i64 (s.T.length:Nat)) hS ?_ (λhS=>?_) (hins:=λL w=>by simp only[aB (l:=L) (i:=5) (k:=7) (by decide)])
 . intro w' L hn hw;have n7:=hn.flag 7 (by kernel_rfl);simp[execOp,go_sem]
 refine so 6 ?_;refine aE (v:=.slice (some ⟨wd.heap.size,0,none⟩) 1 1) (w':=wd.alloc (.cells #[.int .i64 0,.slice none 0 0] 87)) (by simp[execOp,go_sem]) ?_;refine gS ?_ λhS=>?_
 . exact λh=>⟨(hS h).1.low (aD _ _),(hS h).2.1.low (aD _ _),(hS h).2.2.trans ((aD _ _).mono (hS h).2.2.size)⟩
 refine sl 7 ?_;have hs7:=hS rfl;obtain⟨rt,ht,ht1,ht2⟩:=hs7.1.ht;refine bN _ rfl (.tmp 34) (.tmp 37) _ rfl aM9 (base:=B) (v:=.slice At s.T.length ct) (rows:=rt) (by simp[go_sem]) ht (g:=wd.heap.size) (by simp[go_sem]) (heap_alloc_new wd _) rfl (by intro y hy;simp at hy;rcases hy with rfl | rfl <;> rfl) (by rw[ht1];omega) (by rw[ht1];unfold maxLen;omega) (by have:=hs7.1.hB;have:=(hs7.1.own bj (.inl rfl)).2;omega) ?_;intro v7 w7 hown7 hup7 hat7;have hz7:=hup7.size;obtain⟨A7,c2,hv7,_,hc7⟩:=hown7.form;have hl7:(rt++[#[Value.int .i64 0,Value.slice none 0 0].toList]).length=s.T.length+1:=by simp[ht1]
 rw[hl7]at hv7;subst hv7;have hown7':=hown7;obtain⟨g,rfl,hgB,hg7,hcell7,hfr7⟩:=hown7'.row_at (k:=s.T.length) (by omega) (by decide);have q0:=hcell7 0 (by decide);have q1:=hcell7 1 (by decide);have r0:=hfr7 0 (by decide);have r1:=hfr7 1 (by decide);rw[Nat.add_zero]at q0 r0;have hbx7:=hs7.1.box;have hpush:=hs7.1.pushT (Below.refl _ _) (t:=.mk f xs) ⟨ht1,ht2⟩ hown7 hup7 (by rcases hat7 with e | e;exact .inl e;exact .inr (by injection e)) (HR2.out.low hs7.2.2 hB2);simp only[Tm.fn,Tm.args]at hpush;have hdis:=hs7.1.dis;have hbb7:w7.heap[bj]? =some (.cells #[.slice At s.T.length ct,va,vp,.map (some gm)] 134 (0,0)):=(hup7.block bj (hs7.1.own bj (.inl rfl)).2 hdis.tb).trans hbx7;have hgb:g≠bj:=by
  rcases hat7 with e | e
  . intro e2;subst e2;exact hdis.tb e.symm
  injection e with e
  simp only at e;have:=(hs7.1.own bj (.inl rfl)).2;omega
 have p0:w7.cell? ⟨bj,0,none⟩=some (.slice At s.T.length ct):=by rw[cell_of_row w7 bj 0 _ _ _ hbb7];rfl
 have p1:=frozen_of_row w7 bj 0 _ _ hbb7;have hgrow7:=hup7;have hb6:=hs7.2.1;have hb6b:=hs7.2.2;refine gL ?_ λhS=>?_
 . intro h;cases h
 refine tk 8 (.pointer (some ⟨g,s.T.length*2,none⟩)) hS ?_ (λhS=>?_) (hins:=λL w=>by simp only[aB (l:=L) (i:=8) (k:=7) (by decide)])
 . intros;simp[execOp,go_sem,hb8]
 refine ta 10 (.pointer (some ⟨bj,0,none⟩)) hS (λhS=>?_) (hins:=λL w=>by simp only[aB (l:=L) (i:=10) (k:=7) (by decide)]);refine ta 11 (.pointer (some ⟨bj,0,none⟩)) hS (λhS=>?_) (hins:=λL w=>by simp only[aB (l:=L) (i:=11) (k:=7) (by decide)]);refine lI 9 12 (o1:={dst:=none,op:=Op.store 87 (Operand.tmp 39) (Operand.tmp 35),type:=0,pos:= "unify.go:25",after:= #[{on:=8,ground:=Ground.data},{on:=4,ground:=Ground.data},{on:=7,ground:=Ground.chain},{on:=0,ground:=Ground.phase},{on:=1,ground:=Ground.phase},{on:=2,ground:=Ground.phase},{on:=3,ground:=Ground.phase},{on:=4,ground:=Ground.phase},{on:=5,ground:=Ground.phase},{on:=6,ground:=Ground.phase},{on:=7,ground:=Ground.phase},{on:=12,ground:=Ground.gcOnly Departure.appendInPlace}],guard:=none}) (o2:={dst:=none,op:=Op.store 132 (Operand.tmp 41) (Operand.tmp 38),type:=0,pos:= "unify.go:25",after:= #[{on:=11,ground:=Ground.data},{on:=7,ground:=Ground.data},{on:=7,ground:=Ground.chain},{on:=9,ground:=Ground.textOnly Departure.appendInPlace},{on:=0,ground:=Ground.phase},{on:=1,ground:=Ground.phase},{on:=2,ground:=Ground.phase},{on:=3,ground:=Ground.phase},{on:=4,ground:=Ground.phase},{on:=5,ground:=Ground.phase},{on:=6,ground:=Ground.phase},{on:=7,ground:=Ground.phase},{on:=8,ground:=Ground.textOnly Departure.appendInPlace},{on:=9,ground:=Ground.textOnly Departure.appendInPlace}],guard:=none}) (L':= #[true,true,true,true,true,true,true,true,true,true,true,true,true]) (wA:=((w7.setCell ⟨g,s.T.length*2,none⟩ (.int .i64 f)).setCell ⟨g,s.T.length*2+1,none⟩ (.slice A xs.length c))) (wAB:=(((w7.setCell ⟨g,s.T.length*2,none⟩ (.int .i64 f)).setCell ⟨g,s.T.length*2+1,none⟩ (.slice A xs.length c)).setCell ⟨bj,0,none⟩ (.slice (some ⟨g,0,none⟩) (s.T.length+1) c2))) (wB:=(w7.setCell ⟨bj,0,none⟩ (.slice (some ⟨g,0,none⟩) (s.T.length+1) c2))) (wBA:=(((w7.setCell ⟨bj,0,none⟩ (.slice (some ⟨g,0,none⟩) (s.T.length+1) c2)).setCell ⟨g,s.T.length*2,none⟩ (.int .i64 f)).setCell ⟨g,s.T.length*2+1,none⟩ (.slice A xs.length c))) (by kernel_rfl) (by kernel_rfl) (by kernel_rfl) rfl rfl rfl rfl (by rfl) (by rfl) rfl rfl ?r1 ?r12 ?r2 ?r21 ?heq ?s1 ?s2 ?s12 λhS=>?_
 case r1=>simp[execOp,go_sem,q0,q1,r0,r1]
 case r12=>
  have hbA:=((aM (w:=w7.setCell ⟨g,s.T.length*2,none⟩ (.int .i64 f)) (b:=g) (o:=s.T.length*2+1) (.slice A xs.length c)).block bj (by have:=(Array.getElem?_eq_some_iff.1 hbb7).1;simpa [World.setCell]using this) (Ne.symm hgb)).trans (((aM (w:=w7) (b:=g) (o:=s.T.length*2) (.int .i64 f)).block bj (Array.getElem?_eq_some_iff.1 hbb7).1 (Ne.symm hgb)).trans hbb7);generalize (w7.setCell ⟨g,s.T.length*2,none⟩ (.int .i64 f)).setCell ⟨g,s.T.length*2+1,none⟩ (.slice A xs.length c)=wA at hbA ⊢;have x0:wA.cell? ⟨bj,0,none⟩=some (.slice At s.T.length ct):=by rw[cell_of_row wA bj 0 _ _ _ hbA];rfl
  have x1:=frozen_of_row wA bj 0 _ _ hbA;simp[execOp,go_sem,x0,x1]
 case r2=>simp[execOp,go_sem,p0,p1]
 case r21=>
  have hoB:=hown7.upd (aM (w:=w7) (b:=bj) (o:=0) (.slice (some ⟨g,0,none⟩) (s.T.length+1) c2)) (λb e e2=>hgb (by injection e with e;exact e.trans e2));generalize w7.setCell ⟨bj,0,none⟩ (.slice (some ⟨g,0,none⟩) (s.T.length+1) c2)=wB at hoB ⊢;obtain⟨g',hg',-,-,hcB,hfB⟩:=hoB.row_at (k:=s.T.length) (by omega) (by decide);injection hg' with hg'
  injection hg' with hg' _ _
  subst hg';have y0:=hcB 0 (by decide);have y1:=hcB 1 (by decide);have z0:=hfB 0 (by decide);have z1:=hfB 1 (by decide);rw[Nat.add_zero]at y0 z0;simp[execOp,go_sem,y0,y1,z0,z1]
 case heq=>
  rw[gF w7 ⟨bj,0,none⟩ ⟨g,s.T.length*2,none⟩ _ _ (Ne.symm hgb),gF _ ⟨bj,0,none⟩ ⟨g,s.T.length*2+1,none⟩ _ _ (Ne.symm hgb)]
 case s1=>intro h;cases h
 case s2=>intro h;cases h
 case s12=>intro h;cases h
 refine dn ?_;obtain⟨hj3,hgr3⟩:=hpush;have hnb3:¬JF bj gm (.slice At s.T.length ct) va vp w.heap.size:=λe=>by have:=(HJ.out.own _ e).2;omega
 have hbx3:aL w.heap.size 87 (.int .i64 f) (.slice A xs.length c) (((w7.setCell ⟨g,s.T.length*2,none⟩ (.int .i64 f)).setCell ⟨g,s.T.length*2+1,none⟩ (.slice A xs.length c)).setCell ⟨bj,0,none⟩ (.slice (some ⟨g,0,none⟩) (s.T.length+1) c2)):=hb6.upd hgr3.upd hnb3;have hgr03:JGrow bj gm (.slice At s.T.length ct) va vp (.slice (some ⟨g,0,none⟩) (s.T.length+1) c2) va vp w2 _:=(JGrow.low hb6b).trans hgr3;generalize (((w7.setCell ⟨g,s.T.length*2,none⟩ (.int .i64 f)).setCell ⟨g,s.T.length*2+1,none⟩ (.slice A xs.length c)).setCell ⟨bj,0,none⟩ (.slice (some ⟨g,0,none⟩) (s.T.length+1) c2))=w3 at hj3 hbx3 hgr03 ⊢;have Hj3:=Lh hj3;have Hbx3:=Lh hbx3;have Hgr3:=Lh hgr03;have hzw:=HBW2.out.size;have hzw3:=hgr03.upd.size;clear hj3 hbx3 hgr03 hgr3 hnb3 q0 q1 r0 r1 p0 p1 hbb7 hdis hbx7 hfr7 hcell7 hown7 hup7 hat7 hgrow7 hb6 hb6b hwd hbd hS ht ht2 hs7 o0 o1 o2 o3 o4 m0 m1;obtain⟨-,-,a2,-,a4⟩:=Hj3.out.cells;go_upto_region 8 with(
  at_builtin
  refine bN _ rfl (.tmp 46) (.tmp 48) _ rfl nsT (base:=B) (v:=vp) (rows:=s.Ps.map λn=>[dJ n]) rfl (Hj3.out.hp.alloc _) (g:=w3.heap.size) (cells:= #[.int .i64 (s.T.length:Nat)]) rfl (heap_alloc_new w3 _) rfl (by intro y hy;simp at hy;rcases hy with rfl;rfl) (by rw[List.length_map,hok.p];omega) (by rw[List.length_map,hok.p];unfold maxLen;omega) (by simp;omega) ?_;intro v4 w4 hown4 hup4 hat4;obtain⟨A4,c4,hv4,-,-⟩:=hown4.form;rw[show (s.Ps.map (λn=>[dJ n])++[#[Value.int .i64 (s.T.length:Nat)].toList]).length=s.T.length+1 by simp[hok.p]]at hv4;subst hv4;have hp4:=Hj3.out.pushP (n:=s.T.length) (aD w3 _) hown4 hup4 hat4;have hb4:w4.heap[bj]? =some (.cells #[.slice (some ⟨g,0,none⟩) (s.T.length+1) c2,va,vp,.map (some gm)] 134 (0,0)):=(hup4.block bj (by simp;omega) Hj3.out.dis.pb).trans (((aD w3 _).block bj (by omega)).trans Hj3.out.box);have x0:w4.cell? ⟨bj,2,none⟩=some vp:=by rw[cell_of_row w4 bj 2 _ _ _ hb4];rfl
  have x1:=frozen_of_row w4 bj 2 _ _ hb4;have HP4:=Lh hp4;clear hp4 hb4 hown4 hup4 hat4)
 clear a2 a4;obtain⟨hj5,hgr5⟩:=HP4.out;generalize w4.setCell ⟨bj,2,none⟩ (.slice A4 (s.T.length+1) c4)=w5 at hj5 hgr5 ⊢;have hz5:=hgr5.upd.size;have Hj5:=Lh hj5;have Hgr5:=Lh (Hgr3.out.trans hgr5);clear hj5 hgr5 HP4 x0 x1;obtain⟨-,a2,-,-,a4⟩:=Hj5.out.cells;obtain⟨us,hus,hus1,hus2⟩:=Hj5.out.ha;have Hus:=Lh hus;have Hus2:=Lh hus2;have hus3:us.length=s.T.length:=hus1.trans hok.a;clear hus hus2;go_upto_region 9 with(
  at_builtin
  refine bN _ rfl (.tmp 56) (.tmp 57) _ rfl aP2 (base:=B) (v:=va) (rows:=us.map λu=>[u]) rfl (Hus.out.alloc _) (g:=w5.heap.size) (cells:= #[.slice none 0 0]) rfl (heap_alloc_new w5 _) rfl (by intro y hy;simp at hy;rcases hy with rfl;rfl) (by rw[List.length_map,hus3];omega) (by rw[List.length_map,hus3];unfold maxLen;omega) (by simp;omega) ?_;intro v6 w6 hown6 hup6 hat6;obtain⟨A6,c6,hv6,-,-⟩:=hown6.form;rw[show (us.map (λu=>[u])++[#[Value.slice none 0 0].toList]).length=s.T.length+1 by simp[hus3]]at hv6;subst hv6;have hp6:=Hj5.out.pushA (aD w5 _) ⟨hus1,Hus2.out⟩ hown6 hup6 hat6;have hb6:w6.heap[bj]? =some (.cells #[.slice (some ⟨g,0,none⟩) (s.T.length+1) c2,va,.slice A4 (s.T.length+1) c4,.map (some gm)] 134 (0,0)):=(hup6.block bj (by simp;omega) Hj5.out.dis.ab).trans (((aD w5 _).block bj (by omega)).trans Hj5.out.box);have x0:w6.cell? ⟨bj,1,none⟩=some va:=by rw[cell_of_row w6 bj 1 _ _ _ hb6];rfl
  have x1:=frozen_of_row w6 bj 1 _ _ hb6;have HP6:=Lh hp6;clear hp6 hb6 hown6 hup6 hat6)
 obtain⟨hj8,hgr8⟩:=HP6.out;generalize w6.setCell ⟨bj,1,none⟩ (.slice A6 (s.T.length+1) c6)=w8 at hj8 hgr8 ⊢;have hnb3:¬JF bj gm (.slice At s.T.length ct) va vp w.heap.size:=λe=>by have:=(HJ.out.own _ e).2;omega
 have hgr8':=Hgr5.out.trans hgr8;have hz8:=hgr8'.upd.size;have hbx8:aL w.heap.size 87 (.int .i64 f) (.slice A xs.length c) w8:=Hbx2.out.upd hgr8'.upd hnb3;have Hj8:=Lh hj8;have Hgr8:=Lh hgr8';have Hbx8:=Lh hbx8;clear hj8 hgr8 hgr8' hbx8 HP6 x0 x1 a2 a4 Hus Hus2 Hgr5 Hgr3 Hj5 Hj3 Hbx3 Hj2;obtain⟨m0,m1,-⟩:=Hbx8.out.cells;have hj8s:JR B X bj gm s1 (.slice (some ⟨g,0,none⟩) (s.T.length+1) c2) (.slice A6 (s.T.length+1) c6) (.slice A4 (s.T.length+1) c4) w8:=by rw[Hs1.out];exact Hj8.out
 have hjs0:JR B (λb=>X b\/(Value.slice none 0 0).ownBlock=some b) bj gm s1 (.slice (some ⟨g,0,none⟩) (s.T.length+1) c2) (.slice A6 (s.T.length+1) c6) (.slice A4 (s.T.length+1) c4) w8:=hj8s.updX (Upd.refl _ (λ_=>False)) (λ_ h=>h.elim) (λb e=>.inl (by rcases e with e | e;exact e;cases e));have Hjs0:=Lh hjs0;clear hj8s hjs0 Hj8;go_wp2_with fail;go_loopw [8,75] (λu i wr=>∃k:Nat,k<=xs.length/\i=.int .i64 k/\∃vt' va' vp',JR B (λb=>X b\/u.ownBlock=some b) bj gm (aX (xs.take k) s1).2 vt' va' vp' wr/\JGrow bj gm (.slice (some ⟨g,0,none⟩) (s.T.length+1) c2) (.slice A6 (s.T.length+1) c6) (.slice A4 (s.T.length+1) c4) vt' va' vp' w8 wr/\Own wr w8.heap.size 3 1 u ((aX (xs.take k) s1).1.map λn=>[dJ n])/\aL w.heap.size 87 (.int .i64 f) (.slice A xs.length c) wr) (λ_ i _=>xs.length-(intOf i).toNat)
 case atStart=>exact⟨0,Nat.zero_le _,rfl,_,_,_,Hjs0.out,JGrow.low (Below.refl _ _),Own.nil _ _ _ _,Hbx8.out⟩
 obtain⟨k,hk,rfl,vt',va',vp',hjr,hgr,hown,hbx⟩:=hrel;have hgr2:=Hgr8.out.trans hgr;have hbw:Below B w2 wr:=hgr2.upd.toLow hB2 (λg e=>(HJ.out.own g e).1);have hzr:=hgr.upd.size;have hzr2:=hgr2.upd.size;have hjown:=hjr.own;have hjX:=hjr.hX;have hnb3:¬JF bj gm vt' va' vp' w.heap.size:=λe=>by
  rcases hgr2.new _ e with e | e
  . have:=(HJ.out.own _ e).2;omega
  omega
 have hBr:B<=wr.heap.size:=by omega
 obtain⟨okk,-,okz,-⟩:=iI (xs.take k) s1 hok1;have hll:=kI (xs.take k) s1;rw[List.length_take,Nat.min_eq_left hk]at hll;have Hjr:=Lh hjr;have Hgr:=Lh hgr;have Hown:=Lh hown;have Hbx:=Lh hbx;have Hll:=Lh hll;have hlz:=bL xs;clear hjr hgr hgr2 hown hbx hll;by_cases hlt:k<xs.length
 . obtain⟨ab,off,f',ys,A',c',rfl,hxk,hab,k0,k1,hrd⟩:=(HR2.out.low hbw (Nat.le_refl _)).tm_at hlt;have h1:=aZ hlt;have h2:=iB hlt;have h3:=fB xs (k+1);rw[hxk]at h1 h2;simp only[aK]at h1 h2;have HXK:=Lh hxk;have HRD:=Lh hrd;obtain⟨n',s',hadd⟩:∃n' s',cD (.mk f' ys) (aX (xs.take k) s1).2=(n',s'):=⟨_,_,rfl⟩;have Hadd:=Lh hadd;have hlow:=Hown.out.lt;have t1:aI ys<d:=by omega
   have t2:(aX (xs.take k) s1).2.T.length+aI ys<=1000000:=by omega
   have Hokk:=Lh okk;clear hxk hrd hadd okk;go_wp2_with (first
    | (
     go_at_call 88
     refine(Hih.out (λb=>X b\/u8.ownBlock=some b) f' ys (.slice A' ys.length c') (aX (xs.take k) s1).2 vt' va' vp' _ t1 (HRD.out.low (aD wr _) hBr) (Hjr.out.low (aD wr _)) Hokk.out t2).mono ?_;rw[Hadd.out];rintro e w11 ⟨rfl,vt2,va2,vp2,hj11,hg11⟩;have hown11:Own w11 w8.heap.size 3 1 u8 ((aX (xs.take k) s1).1.map λn=>[dJ n]):=(Hown.out.alloc _).upd hg11.upd (λg e e2=>(hjX g (.inr e)).1 e2);have hbx11:=(Hbx.out.low (aD wr _)).upd hg11.upd hnb3;have hz11:=hg11.upd.size;rw[cQ]at hz11;have Hj11:=Lh hj11;have Hg11:=Lh hg11;have Hown11:=Lh hown11;have Hbx11:=Lh hbx11;clear hj11 hg11 hown11 hbx11)
    | (
     at_builtin
     refine bN _ rfl (.tmp 79) (.tmp 83) _ rfl nsT (base:=w8.heap.size) (v:=u8) (rows:=(aX (xs.take k) s1).1.map λn=>[dJ n]) rfl (Hown11.out.alloc _) (g:=w11.heap.size) (cells:= #[.int .i64 (n':Nat)]) rfl (heap_alloc_new w11 _) rfl (by intro y hy;simp at hy;rcases hy with rfl;rfl) (by rw[List.length_map,Hll.out];omega) (by rw[List.length_map,Hll.out];unfold maxLen;omega) (by simp;omega) ?_;intro v12 w12 hown12 hup12 hat12;have Hown12:=Lh hown12;have Hup12:=Lh hup12;have Hat12:=Lh hat12;clear hown12 hup12 hat12))
   have hz12:=Hup12.out.size;rw[cQ]at hz12;go_roundw
   case rel=>
    have hsn:=pP xs[k] (xs.take k) s1;rw[<-List.take_succ_eq_append_getElem hlt,HXK.out,Hadd.out]at hsn;refine⟨k+1,by omega,by go_num,vt2,va2,vp2,?_,?_,?_,?_⟩
    . rw[hsn];refine(Hj11.out.low (aD w11 _)).updX Hup12.out (λb e=>⟨by have:=(hlow b e).1;omega,.inl (.inr e)⟩) (λb e=>?_);rcases e with e | e
      . exact .inl (.inl e)
      rcases Hat12.out with e2 | e2
      . exact .inl (.inr (e2 ▸ e))
      rw[e2]at e;injection e with e
      refine .inr ⟨by omega,?_⟩;have:=(Hown12.out.lt b (by rw[e2,e])).2;omega
    . have hg2:JGrow bj gm vt' va' vp' vt2 va2 vp2 wr w11:=(JGrow.low (aD wr _)).trans Hg11.out;have hg3:=Hgr.out.trans hg2;refine⟨(hg3.upd.alloc _).trans Hup12.out (λi e=>.inr (hlow i e).1),hg3.new⟩
    . rw[hsn,List.map_append];exact Hown12.out
    exact(Hbx11.out.low (aD w11 _)).upd Hup12.out (λe=>by have:=(hlow _ e).1;omega)
   case measure=>simp[intOf];omega
 obtain rfl:k=xs.length:=by omega
 have hta:xs.take xs.length=xs:=List.take_length;have hjr:=Hjr.out;have hown:=Hown.out;rw[hta]at hjr hown okk okz;have hll:=Hll.out;rw[hta]at hll;have hTl:s.T.length<(aX xs s1).2.T.length:=by have:=(iI xs s1 hok1).2.1;omega
 obtain⟨ga,ca,ua,hva,x0,x1,-⟩:=hjr.args_at (k:=s.T.length) (by rw[okk.a];exact hTl);obtain⟨nA,hnA⟩:∃nA,(aX xs s1).2.As.length=nA:=⟨_,rfl⟩;rw[hnA]at hva;subst hva;obtain⟨Au,cu,hu,-,-⟩:=hown.form;rw[List.length_map,hll]at hu;have hq:RdP wr (λb=>B<=b/\¬JF bj gm vt' (.slice (some ⟨ga,0,none⟩) nA ca) vp' b/\¬X b) (qY (aX xs s1).1) u8:=(hown.nsP (by rw[hll];exact hn)).more λb e _=>⟨by have:=(hown.lt b e).1;omega,(hjX b (.inr e)).1,λe2=>by have:=(hown.lt b e).1;have:=(Hjs0.out.hX b (.inl e2)).2;omega⟩
 have hfin:=(hjr.updX (X':=X) (Upd.refl _ (λ_=>False)) (λ_ h=>h.elim) (λb e=>.inl (.inl e))).setArg (k:=s.T.length) (by rw[okk.a];exact hTl) rfl hq;have hlen:(aX xs s1).2.As.length=(aX xs s1).2.T.length:=okk.a;obtain⟨-,y1,-,-,-⟩:=hjr.cells;rw[hu]at hfin;have Hfin:=Lh hfin;have hTl2:s.T.length<nA:=by omega
 have Hgr9:=Lh ((Hgr8.out.trans Hgr.out).trans hfin.2);subst hu;clear hjr hown hfin hq Hjr Hown Hll hll hnA hlen Hgr;go_wp2_with fail;go_ret;exact⟨rfl,_,_,_,Hfin.out.1,(JGrow.low HBW2.out).trans Hgr9.out⟩
structure Forest (Ps:List Nat)(rep d:Nat->Nat):Prop where
 lt:∀i (h:i<Ps.length),Ps[i]<Ps.length
 root:∀i (h:i<Ps.length),Ps[i]=i↔rep i=i
 step:∀i (h:i<Ps.length),rep Ps[i]=rep i
 dec:∀i (h:i<Ps.length),Ps[i]≠i->d Ps[i]<d i
theorem Forest.rep_lt {Ps:List Nat} {rep d:Nat->Nat} (h:Forest Ps rep d):∀n i,d i<n->i<Ps.length->rep i<Ps.length/\rep (rep i)=rep i:=by
 intro n;induction n with
 | zero=>intro i hd;omega
 | succ n ih=>
  intro i hd hi;by_cases hr:Ps[i]=i
  . have:=(h.root i hi).1 hr;rw[this];exact⟨hi,this⟩
  have hs:=h.step i hi;have hl:=h.lt i hi;have hdd:=h.dec i hi hr;obtain⟨h1,h2⟩:=ih Ps[i] (by omega) hl;rw[hs]at h1 h2;exact⟨h1,h2⟩
theorem Forest.rep' {Ps:List Nat} {rep d:Nat->Nat} (h:Forest Ps rep d) {i:Nat} (hi:i<Ps.length):rep i<Ps.length/\rep (rep i)=rep i:=h.rep_lt (d i+1) i (Nat.lt_succ_self _) hi
theorem Forest.halve {Ps:List Nat} {rep d:Nat->Nat} (h:Forest Ps rep d) {m p:Nat} (hm:m<Ps.length)(hp:∃q,Ps[m]? =some q/\Ps[q]? =some p)(hne:Ps[m]≠m):Forest (Ps.set m p) rep d/\rep p=rep m/\d p<d m/\p<Ps.length:=by
 obtain⟨q,hq,hp⟩:=hp;obtain⟨hq1,rfl⟩:=List.getElem?_eq_some_iff.1 hq;obtain⟨hp1,rfl⟩:=List.getElem?_eq_some_iff.1 hp;have hd:d (Ps[Ps[m]])<d m:=by
  have h1:=h.dec m hm hne;by_cases h2:Ps[Ps[m]]=Ps[m]
  . rw[h2];exact h1
  have:=h.dec _ hp1 h2;omega
 have hr:rep (Ps[Ps[m]])=rep m:=(h.step _ hp1).trans (h.step m hm);refine⟨⟨?_,?_,?_,?_⟩,hr,hd,h.lt _ hp1⟩
 . intro i hi;rw[List.length_set]at hi ⊢;rw[List.getElem_set];split
   . exact h.lt _ hp1
   exact h.lt i hi
 . intro i hi;rw[List.length_set]at hi;rw[List.getElem_set];split
   . rename_i e
     subst e;constructor
     . intro e;rw[e]at hd;omega
     intro e;exact absurd ((h.root m hm).2 e) hne
   exact h.root i hi
 . intro i hi;rw[List.length_set]at hi;rw[List.getElem_set];split
   . rename_i e;subst e;exact hr
   exact h.step i hi
 intro i hi;rw[List.length_set]at hi;rw[List.getElem_set];split
 . rename_i e;subst e;intro _;exact hd
 exact h.dec i hi
theorem JR.setPar {X:Nat->Prop} {B bj gm:Nat} {s:JS} {vt va vp:Value} {w:World} (h:JR B X bj gm s vt va vp w) {k v g n c:Nat} (hvp:vp=.slice (some ⟨g,0,none⟩) n c):
 JR B X bj gm ⟨s.T,s.As,s.Ps.set k v,s.V⟩ vt va vp (w.setCell ⟨g,k,none⟩ (dJ v))/\JGrow bj gm vt va vp vt va vp w (w.setCell ⟨g,k,none⟩ (dJ v)):=by
 have hd:=h.dis;have hgo:vp.ownBlock=some g:=by rw[hvp];rfl
 have hup:Upd w (w.setCell ⟨g,k,none⟩ (dJ v)) (λb=>b=bj\/vp.ownBlock=some b):=(Upd.refl w _).setCell _ _ (.inl (.inr hgo));have hF:∀b,(b=bj\/vp.ownBlock=some b)->JF bj gm vt va vp b\/w.heap.size<=b:=by
  rintro b (e | e)
  . exact .inl (.inl e)
  exact .inl (.inr (.inr (.inr (.inr e))))
 have hgb:g≠bj:=by rintro rfl;exact hd.pb hgo
 have hp:=h.hp;rw[hvp]at hp;have hp':Own w B 3 1 (.slice (some ⟨g,0,none⟩) n c) ((s.Ps.map dJ).map λu=>[u]):=by rw[List.map_map];exact hp
 have ho:=hp'.set1 (j:=k) (dJ v);rw[<-List.map_set,List.map_map]at ho;exact⟨h.setP (Ps':=s.Ps.set k v) hup ((aM _).block bj (h.own bj (.inl rfl)).2 (Ne.symm hgb) |>.trans h.box) (by rw[hvp];exact ho) (.inl rfl),⟨hup.more hF,λ_ e=>.inl e⟩⟩
theorem cH {g g' n n' c c' o o':Nat} (h:Value.slice (some ⟨g,o,none⟩) n c=.slice (some ⟨g',o',none⟩) n' c'):g=g':=by
 injection h with h _ _
 injection h with h
 injection h
theorem bP {w w':World} (h:w'.heap=w.heap)(p:Addr):w'.cell? p=w.cell? p:=by unfold World.cell?;rw[h]
theorem wN {w w':World} (h:w'.heap=w.heap)(p:Addr):w'.frozen? p=w.frozen? p:=by unfold World.frozen?;rw[h]
def zS (B:Nat)(X:Nat->Prop)(bj gm:Nat)(s:JS)(rep d:Nat->Nat)(n:Nat)(vt va vp:Value)(w:World)(e:Ending)(w':World):Prop:=
 e=.returned (.int .i64 (rep n:Nat))/\∃Ps',JR B X bj gm ⟨s.T,s.As,Ps',s.V⟩ vt va vp w'/\JGrow bj gm vt va vp vt va vp w w'/\Forest Ps' rep d/\Ps'.length=s.Ps.length
theorem oH (B:Nat)(X:Nat->Prop)(bj gm:Nat)(s:JS)(rep d:Nat->Nat)(n:Nat)(vt va vp:Value)(w:World)(hj:JR B X bj gm s vt va vp w)(hf:Forest s.Ps rep d)(hn:n<s.Ps.length):
 Calls Try.prog 90 #[.pointer (some ⟨bj,0,none⟩),.int .i64 (n:Nat)] w (λe w'=>zS B X bj gm s rep d n vt va vp w e w'/\w'.heap[gm]? =w.heap[gm]?):=by
 have hgl:=(hj.own gm (.inr (.inl rfl))).2;have hpg:=hj.dis.pg;obtain⟨g,c,hvp,-,-⟩:=hj.par_at hn;obtain⟨N,hN⟩:∃N,s.Ps.length=N:=⟨_,rfl⟩;rw[hN]at hvp hn;subst hvp;have hgg:gm≠g:=λe=>hpg (by rw[e];rfl)
 clear hpg;have Hj:=Lh hj;have Hf:=Lh hf;have HN:=Lh hN;clear hj hf hN;go_enter Try.func90,Try.ntmps90;go_wp2_with fail;go_loopw [1] (λi wr=>∃m:Nat,m<N/\i=.int .i64 m/\rep m=rep n/\∃Ps',JR B X bj gm ⟨s.T,s.As,Ps',s.V⟩ vt va (.slice (some ⟨g,0,none⟩) N c) wr/\JGrow bj gm vt va (.slice (some ⟨g,0,none⟩) N c) vt va (.slice (some ⟨g,0,none⟩) N c) w wr/\Forest Ps' rep d/\Ps'.length=N/\wr.heap[gm]? =w.heap[gm]?) (λi _=>d (intOf i).toNat)
 case atStart=>exact⟨n,hn,rfl,rfl,s.Ps,Hj.out,JGrow.low (Below.refl _ _),Hf.out,HN.out,rfl⟩
 obtain⟨m,hm,rfl,hrm,Ps',hjr,hgr,hfr,hl,hgk⟩:=hrel;have hzw:=hgr.upd.size;have Hgk:=Lh hgk;clear hgk;have hm':m<Ps'.length:=by omega
 obtain⟨-,-,x2,-,-⟩:=hjr.cells;obtain⟨g',c',hv',x4,x5⟩:=hjr.par_at (k:=m) hm';obtain rfl:=cH hv';clear hv';obtain⟨p,hp⟩:∃p,Ps'[m]=p:=⟨_,rfl⟩;have hpl:p<N:=by have:=hfr.lt m hm';omega
 replace x4:wr.cell? ⟨g,m,none⟩=some (.int .i64 (p:Nat)):=by rw[<-hp];exact x4
 by_cases hpm:p=m
 . have hroot:=(hfr.root m hm').1 (hp.trans hpm);subst hpm;have Hjr:=Lh hjr;have Hgr:=Lh hgr;have Hfr:=Lh hfr;have Hl:=Lh hl;have Hres:=Lh (hroot.symm.trans hrm);clear hjr hgr hfr hl hrm hp hroot;go_wp2_with fail;go_ret;exact⟨⟨by rw[<-Hres.out];rfl,_,Hjr.out,Hgr.out,Hfr.out,Hl.out.trans HN.out.symm⟩,Hgk.out⟩
 obtain⟨g',c',hv',x6,-⟩:=hjr.par_at (k:=p) (by show p<Ps'.length;omega);obtain rfl:=cH hv';clear hv';obtain⟨q,hq⟩:∃q,Ps'[p]'(by omega)=q:=⟨_,rfl⟩;have hql:q<N:=by have:=hfr.lt p (by omega);omega
 replace x6:wr.cell? ⟨g,p,none⟩=some (.int .i64 (q:Nat)):=by rw[<-hq];exact x6
 have hh:=hfr.halve hm' (p:=q) ⟨p,by rw[List.getElem?_eq_getElem hm',hp],by rw[List.getElem?_eq_getElem (by omega),hq]⟩ (by rw[hp];exact hpm);have hfin:=hjr.setPar (k:=m) (v:=q) rfl;have b1:(m:Int)≠(p:Int):=by omega
 have Hjr:=Lh hjr;have Hgr:=Lh hgr;have Hfr:=Lh hfr;have Hl:=Lh hl;have Hrm:=Lh hrm;have Hhh:=Lh hh;have Hfin:=Lh hfin;clear hjr hgr hfr hl hrm hp hq hh hfin;have hmi:¬((N:Int)<=(m:Int)):=by omega
 have hpi:¬((N:Int)<=(p:Int)):=by omega
 have ht:((p:Int) !=(m:Int))=true:=by simp;omega
 go_upto_region 2 with fail
 refine rg 20 (λL w'=>L.getD 19 false=false->w'.heap=wr.heap) ?_;intro wd hwd hbd;refine⟨?_,λhS=>?_⟩
 . exact λ_=>hwd
 refine ta 0 (.pointer (some ⟨bj,0,none⟩)) hS (λhS=>?_) (hins:=λL w=>by simp only[aB (l:=L) (i:=0) (k:=19) (by decide)]);refine ta 1 (.pointer (some ⟨bj,0,none⟩)) hS (λhS=>?_) (hins:=λL w=>by simp only[aB (l:=L) (i:=1) (k:=19) (by decide)]);refine tk 2 (.pointer (some ⟨bj,2,none⟩)) hS ?_ (λhS=>?_) (hins:=λL w=>by simp only[aB (l:=L) (i:=2) (k:=19) (by decide)])
 . intro w' L hn hw;have n19:=hn.flag 19 (by kernel_rfl);simp[execOp,go_sem]
 refine tk 3 (.slice (some ⟨g,0,none⟩) N c) hS ?_ (λhS=>?_) (hins:=λL w=>by simp only[aB (l:=L) (i:=3) (k:=19) (by decide)])
 . intro w' L hn hw;have n19:=hn.flag 19 (by kernel_rfl);have hw:=hw n19;have o2:=(bP hw ⟨bj,2,none⟩).trans x2;simp[execOp,go_sem,o2]
 refine ta 4 (.int .i64 (m:Nat)) hS (λhS=>?_) (hins:=λL w=>by simp only[aB (l:=L) (i:=4) (k:=19) (by decide)]);refine ta 5 (.pointer (some ⟨bj,0,none⟩)) hS (λhS=>?_) (hins:=λL w=>by simp only[aB (l:=L) (i:=5) (k:=19) (by decide)]);refine ta 6 (.pointer (some ⟨bj,0,none⟩)) hS (λhS=>?_) (hins:=λL w=>by simp only[aB (l:=L) (i:=6) (k:=19) (by decide)]);refine tk 7 (.pointer (some ⟨bj,2,none⟩)) hS ?_ (λhS=>?_) (hins:=λL w=>by simp only[aB (l:=L) (i:=7) (k:=19) (by decide)])
 . intro w' L hn hw;have n19:=hn.flag 19 (by kernel_rfl);simp[execOp,go_sem]
 refine tk 8 (.slice (some ⟨g,0,none⟩) N c) hS ?_ (λhS=>?_) (hins:=λL w=>by simp only[aB (l:=L) (i:=8) (k:=19) (by decide)])
 . intro w' L hn hw;have n19:=hn.flag 19 (by kernel_rfl);have hw:=hw n19;have o2:=(bP hw ⟨bj,2,none⟩).trans x2;simp[execOp,go_sem,o2]
 refine ta 9 (.pointer (some ⟨bj,0,none⟩)) hS (λhS=>?_) (hins:=λL w=>by simp only[aB (l:=L) (i:=9) (k:=19) (by decide)]);refine ta 10 (.pointer (some ⟨bj,0,none⟩)) hS (λhS=>?_) (hins:=λL w=>by simp only[aB (l:=L) (i:=10) (k:=19) (by decide)]);refine tk 11 (.pointer (some ⟨bj,2,none⟩)) hS ?_ (λhS=>?_) (hins:=λL w=>by simp only[aB (l:=L) (i:=11) (k:=19) (by decide)])
 . intro w' L hn hw;have n19:=hn.flag 19 (by kernel_rfl);simp[execOp,go_sem]
 refine tk 12 (.slice (some ⟨g,0,none⟩) N c) hS ?_ (λhS=>?_) (hins:=λL w=>by simp only[aB (l:=L) (i:=12) (k:=19) (by decide)])
 . intro w' L hn hw;have n19:=hn.flag 19 (by kernel_rfl);have hw:=hw n19;have o2:=(bP hw ⟨bj,2,none⟩).trans x2;simp[execOp,go_sem,o2]
 refine ta 13 (.int .i64 (m:Nat)) hS (λhS=>?_) (hins:=λL w=>by simp only[aB (l:=L) (i:=13) (k:=19) (by decide)]);refine tk 14 (.pointer (some ⟨g,m,none⟩)) hS ?_ (λhS=>?_) (hins:=λL w=>by simp only[aB (l:=L) (i:=14) (k:=19) (by decide)])
 . intro w' L hn hw;have n19:=hn.flag 19 (by kernel_rfl);simp[execOp,go_sem,hm,hmi]
 refine tk 15 (.int .i64 (p:Nat)) hS ?_ (λhS=>?_) (hins:=λL w=>by simp only[aB (l:=L) (i:=15) (k:=19) (by decide)])
 . intro w' L hn hw;have n19:=hn.flag 19 (by kernel_rfl);have hw:=hw n19;have o4:=(bP hw ⟨g,m,none⟩).trans x4;simp[execOp,go_sem,o4]
 refine tk 16 (.pointer (some ⟨g,p,none⟩)) hS ?_ (λhS=>?_) (hins:=λL w=>by simp only[aB (l:=L) (i:=16) (k:=19) (by decide)])
 . intro w' L hn hw;have n19:=hn.flag 19 (by kernel_rfl);simp[execOp,go_sem,hpl,hpi]
 refine tk 17 (.int .i64 (q:Nat)) hS ?_ (λhS=>?_) (hins:=λL w=>by simp only[aB (l:=L) (i:=17) (k:=19) (by decide)])
 . intro w' L hn hw;have n19:=hn.flag 19 (by kernel_rfl);have hw:=hw n19;have o6:=(bP hw ⟨g,p,none⟩).trans x6;simp[execOp,go_sem,o6]
 refine tk 18 (.pointer (some ⟨g,m,none⟩)) hS ?_ (λhS=>?_) (hins:=λL w=>by simp only[aB (l:=L) (i:=18) (k:=19) (by decide)])
 . intro w' L hn hw;have n19:=hn.flag 19 (by kernel_rfl);simp[execOp,go_sem,hm,hmi]
 refine so 19 ?_;have hw:=hS rfl;have o4:=(bP hw ⟨g,m,none⟩).trans x4;have o5:=(wN hw ⟨g,m,none⟩).trans x5;refine bF (w':=wd.setCell ⟨g,m,none⟩ (.int .i64 (q:Nat))) (by simp[execOp,go_sem,o4,o5]) ?_;refine gS ?_ λhS=>?_
 . intro h;cases h
 refine dn ?_;have hb2:Below wr.heap.size wr wd:=hwd ▸ hbd;have hj3:=(Hjr.out.low hb2).setPar (k:=m) (v:=q) rfl;have hgr3:JGrow bj gm vt va (.slice (some ⟨g,0,none⟩) N c) vt va (.slice (some ⟨g,0,none⟩) N c) w _:=(Hgr.out.trans (JGrow.low hb2)).trans hj3.2;have hj4:=hj3.1;obtain⟨hf4,hr4,hd4,-⟩:=Hhh.out;have hl4:(Ps'.set m q).length=N:=by rw[List.length_set];exact Hl.out
 rw[show dJ q=.int .i64 (q:Nat)from rfl]at hj4 hgr3;have hgk3:(wd.setCell ⟨g,m,none⟩ (.int .i64 (q:Nat))).heap[gm]? =w.heap[gm]? :=((aM (w:=wd) (b:=g) (o:=m) (.int .i64 (q:Nat))).block gm (by rw[hwd];omega) hgg).trans ((congrArg (λh=>h[gm]?) hwd).trans Hgk.out);have Hgk3:=Lh hgk3;clear hgk3;generalize wd.setCell ⟨g,m,none⟩ (.int .i64 (q:Nat))=w3 at hj4 hgr3 Hgk3 ⊢;obtain⟨-,-,z2,-,-⟩:=hj4.cells;obtain⟨g',c',hv',z4,-⟩:=hj4.par_at (k:=m) (by show m<(Ps'.set m q).length;omega);obtain rfl:=cH hv';clear hv';simp only[List.getElem_set_self]at z4;rw[show dJ q=.int .i64 (q:Nat)from rfl]at z4;have Hj4:=Lh hj4;have Hgr4:=Lh hgr3;have Hf4:=Lh hf4;have Hl4:=Lh hl4;have Hr4:=Lh (hr4.trans Hrm.out);clear hj4 hgr3 hf4 hl4 hr4 hj3 hS hwd hbd hb2 x2 x4 x5 x6;go_wp2_with fail;go_roundw
 case rel=>exact⟨q,hql,rfl,Hr4.out,_,Hj4.out,Hgr4.out,Hf4.out,Hl4.out,Hgk3.out⟩
 case measure=>simp[intOf];omega
theorem rE (B:Nat)(X:Nat->Prop)(bj gm:Nat)(s:JS)(rep d:Nat->Nat)(n:Nat)(vt va vp:Value)(w:World)(hj:JR B X bj gm s vt va vp w)(hf:Forest s.Ps rep d)(hn:n<s.Ps.length)(_hz:s.Ps.length<=1000000):
 Calls Try.prog 90 #[.pointer (some ⟨bj,0,none⟩),.int .i64 (n:Nat)] w (zS B X bj gm s rep d n vt va vp w):=
 (oH B X bj gm s rep d n vt va vp w hj hf hn).mono λ_ _ h=>h.1
def uni (rep:Nat->Nat)(y x:Nat):Nat->Nat:=λi=>if rep i=y then x else rep i
theorem Forest.union {Ps:List Nat} {rep d:Nat->Nat} (h:Forest Ps rep d) {x y:Nat} (hx:x<Ps.length)(_hy:y<Ps.length)(rx:rep x=x)(ry:rep y=y)(hne:x≠y):
 Forest (Ps.set y x) (uni rep y x) (λi=>if rep i=y then d i+d x+1 else d i):=by
 refine⟨?_,?_,?_,?_⟩
 . intro i hi;rw[List.length_set]at hi ⊢;rw[List.getElem_set];split
   . exact hx
   exact h.lt i hi
 . intro i hi;rw[List.length_set]at hi;rw[List.getElem_set];unfold uni;by_cases hiy:y=i
   . subst hiy;rw[if_pos rfl,if_pos ry]
   rw[if_neg hiy];constructor
   . intro e;have:=(h.root i hi).1 e;rw[if_neg (by rw[this];exact λe=>hiy e.symm)];exact this
   intro e;split at e
   . rename_i e2
     subst e;rw[rx]at e2;exact absurd e2 hne
   exact(h.root i hi).2 e
 . intro i hi;rw[List.length_set]at hi;rw[List.getElem_set];unfold uni;by_cases hiy:y=i
   . subst hiy;rw[if_pos rfl,if_pos ry,rx,if_neg hne]
   rw[if_neg hiy,h.step i hi]
 intro i hi;rw[List.length_set]at hi;rw[List.getElem_set];by_cases hiy:y=i
 . subst hiy;rw[if_pos rfl,if_pos ry,rx,if_neg hne];intro _;omega
 rw[if_neg hiy,h.step i hi];intro e;have:=h.dec i hi e;split <;> omega
def cnt (rep:Nat->Nat):Nat->Nat
 | 0=>0
 | n+1=>cnt rep n+if rep n=n then 1 else 0
theorem kL {rep:Nat->Nat} {x y:Nat} (rx:rep x=x)(ry:rep y=y)(hne:x≠y):∀n,cnt (uni rep y x) n+(if y<n then 1 else 0)=cnt rep n
 | 0=>rfl
 | n+1=>by
  have ih:=kL rx ry hne n;simp only[cnt];by_cases hn:n=y
  . subst hn;have:uni rep n x n≠n:=(by unfold uni;rw[if_pos ry];exact hne);rw[if_neg this,if_pos ry,if_pos (Nat.lt_succ_self _)];rw[if_neg (Nat.lt_irrefl _)]at ih;omega
  have:(uni rep y x n=n)↔(rep n=n):=by
   unfold uni;constructor
   . intro e;split at e
     . rename_i e2
       subst e;rw[rx]at e2;exact absurd e2 hne
     exact e
   intro e;rw[if_neg (by rw[e];exact hn),e]
  have h2:(y<n+1)↔(y<n):=by omega
  simp only[this,h2];omega
theorem aG7 (rep:Nat->Nat):∀n,cnt rep n<=n
 | 0=>Nat.le_refl _
 | n+1=>by have:=aG7 rep n;simp only[cnt];split <;> omega
def bT (T:List Tm)(n:Nat):Int:=match T[n]? with | some t=>t.fn | none=>0
def bV (As:List (List Nat))(n:Nat):List Nat:=As[n]?.getD []
def cS (T:List Tm)(As:List (List Nat)):Nat->List (Nat × Nat)->(Nat->Nat)->Bool × (Nat->Nat)
 | _,[],rep=>(true,rep)
 | 0,_::_,rep=>(false,rep)
 | k+1,(a,b)::st,rep=>
  if rep a=rep b then cS T As k st rep
  else if bT T (rep a)<0/\bT T (rep b)<0 then
   (if bT T (rep a)<bT T (rep b)then cS T As k st (uni rep (rep a) (rep b))else cS T As k st (uni rep (rep b) (rep a)))
  else if bT T (rep a)<0 then cS T As k st (uni rep (rep a) (rep b))
  else if bT T (rep b)<0 then cS T As k st (uni rep (rep b) (rep a))
  else if bT T (rep a)≠bT T (rep b)\/(bV As (rep a)).length≠(bV As (rep b)).length then(false,rep)
  else cS T As k (((bV As (rep a)).zip (bV As (rep b))).reverse++st) (uni rep (rep b) (rep a))
def dP (p:Nat × Nat):List Value:=[dJ p.1,dJ p.2]
theorem Own.take {w:World} {base g n c size i:Nat} {e:TypeId} {rows:List (List Value)} (h:Own w base e size (.slice (some ⟨g,0,none⟩) n c) rows)(hi:i<=rows.length):
 Own w base e size (.slice (some ⟨g,0,none⟩) i c) (rows.take i):=by
 have hn:n=rows.length:=by
  obtain⟨A,c',hv,_⟩:=h.form;injection hv
 subst hn;have hr:=h.2;have hlen:∀l:List (List Value),(∀r∈l,r.length=size)->l.flatten.length=l.length*size:=by
  intro l hl;induction l with
  | nil=>simp
  | cons a l ih=>
   rw[List.flatten_cons,List.length_append,ih (λr h=>hl r (List.mem_cons_of_mem _ h)),hl a (List.mem_cons_self ..),List.length_cons,Nat.add_mul,Nat.one_mul,Nat.add_comm]
 have hsplit:rows.flatten=(rows.take i).flatten++(rows.drop i).flatten:=by rw[<-List.flatten_append,List.take_append_drop]
 refine⟨?_,λr hr'=>h.2 r (List.mem_of_mem_take hr')⟩;have htl:(rows.take i).length=i:=by rw[List.length_take];omega
 rw[htl];obtain⟨h1,h2⟩:=h.1;have hfl:(rows.take i).flatten.length=i*size:=by rw[hlen _ (λr hr'=>h.2 r (List.mem_of_mem_take hr')),htl]
 refine⟨hfl,?_⟩;rcases h2 with⟨h2,h3⟩ | ⟨g',cap,cur,hv,hb,hg,hnc,hcm,hcs,htake⟩
 . cases h2
 injection hv with hv1 hv2 hv3
 subst hv3;refine .inr ⟨g',c,cur,by rw[<-hv1],hb,hg,by omega,hcm,hcs,?_⟩;have:cur.toList.take (i*size)=(cur.toList.take (rows.length*size)).take (i*size):=by
  rw[List.take_take];congr 1
  have:=Nat.mul_le_mul_right size hi;omega
 rw[this,htake,hsplit,List.take_append_of_le_length (by omega),List.take_of_length_le (by omega)]
theorem pU {w W:World} {t:TypeId} {z0 z1 x0 x1 y0 y1:Value} {b1 b2:Nat} (hb:b1=w.heap.size/\b2=w.heap.size+1\/b2=w.heap.size/\b1=w.heap.size+1)
 (hW:(w.alloc (.cells #[z0,z1] t)).alloc (.cells #[z0,z1] t)=W):
 aL b1 t z0 z1 W/\aL b2 t z0 z1 ((W.setCell ⟨b1,0,none⟩ x0).setCell ⟨b1,1,none⟩ x1)/\
  aL b1 t x0 x1 ((((W.setCell ⟨b1,0,none⟩ x0).setCell ⟨b1,1,none⟩ x1).setCell ⟨b2,0,none⟩ y0).setCell ⟨b2,1,none⟩ y1)/\
  aL b2 t y0 y1 ((((W.setCell ⟨b1,0,none⟩ x0).setCell ⟨b1,1,none⟩ x1).setCell ⟨b2,0,none⟩ y0).setCell ⟨b2,1,none⟩ y1)/\
  Below w.heap.size w W/\Below w.heap.size w ((W.setCell ⟨b1,0,none⟩ x0).setCell ⟨b1,1,none⟩ x1)/\
  Below w.heap.size w ((((W.setCell ⟨b1,0,none⟩ x0).setCell ⟨b1,1,none⟩ x1).setCell ⟨b2,0,none⟩ y0).setCell ⟨b2,1,none⟩ y1)/\w.heap.size<=b1/\w.heap.size<=b2/\b1≠b2/\
  b1<((((W.setCell ⟨b1,0,none⟩ x0).setCell ⟨b1,1,none⟩ x1).setCell ⟨b2,0,none⟩ y0).setCell ⟨b2,1,none⟩ y1).heap.size/\b2<((((W.setCell ⟨b1,0,none⟩ x0).setCell ⟨b1,1,none⟩ x1).setCell ⟨b2,0,none⟩ y0).setCell ⟨b2,1,none⟩ y1).heap.size:=by
 obtain⟨h1,h2,h3,h4⟩:=aO w (.cells #[z0,z1] t) (.cells #[z0,z1] t);rw[hW]at h1 h2 h3 h4;have hB1:aL b1 t z0 z1 W:=by rcases hb with⟨e,_⟩ | ⟨_,e⟩ <;> subst e;exact h1;exact h2
 have hB2:aL b2 t z0 z1 W:=by rcases hb with⟨_,e⟩ | ⟨e,_⟩ <;> subst e;exact h2;exact h1
 have hne:b1≠b2:=by rcases hb with⟨e,e2⟩ | ⟨e,e2⟩ <;> omega
 have hw1:w.heap.size<=b1:=by rcases hb with⟨e,e2⟩ | ⟨e,e2⟩ <;> omega
 have hw2:w.heap.size<=b2:=by rcases hb with⟨e,e2⟩ | ⟨e,e2⟩ <;> omega
 obtain⟨k1,u1⟩:=hB1.set x0 x1;have k2:=hB2.upd u1 (Ne.symm hne);obtain⟨k3,u2⟩:=k2.set y0 y1;have k4:=k1.upd u2 hne;have l1:Below w.heap.size w ((W.setCell ⟨b1,0,none⟩ x0).setCell ⟨b1,1,none⟩ x1):=h3.trans (u1.toLow (by have:=h3.size;omega) (by rintro k rfl;exact hw1));have l2:=l1.trans (u2.toLow (B:=w.heap.size) (by have:=l1.size;omega) (by rintro k rfl;exact hw2));exact⟨hB1,k2,k4,k3,h3,l1,l2,hw1,hw2,hne,k4.lt,k3.lt⟩
theorem aP3:SliceTy Try.prog 146 145 2 16:=jI Try.underlying146 (by kernel_rfl:(Try.prog.info? 145).map (λi=>(i.zero,i.size,i.bytes))=some (some (.agg #[.int .i64 0,.int .i64 0]),2,16)) rfl (by decide)
def noB (_:Nat):Prop:=False
def aK4 (B bj gm:Nat)(s:JS)(r:Bool × (Nat->Nat))(vt va vp:Value)(w:World)(e:Ending)(w':World):Prop:=
 e=.returned (.bool r.1)/\∃Ps' d',JR B noB bj gm ⟨s.T,s.As,Ps',s.V⟩ vt va vp w'/\JGrow bj gm vt va vp vt va vp w w'/\Forest Ps' r.2 d'/\Ps'.length=s.Ps.length
theorem RdP.ns_at {w:World} {P:Nat->Prop} {k n c:Nat} {A:Option Addr} {l:List Nat} (h:RdP w P (qY l) (.slice A n c))(hk:k<l.length):
 ∃ab off,A=some ⟨ab,off,none⟩/\P ab/\ab<w.heap.size/\w.cell? ⟨ab,off+k,none⟩=some (.int .i64 (l[k]:Nat)):=by
 unfold qY at h;generalize hrows:(l.map λn=>[Tr.leaf (dJ n)])=rows at h;generalize hv:Value.slice A n c=v at h;have hlen:rows.length=l.length:=by rw[<-hrows,List.length_map]
 cases h with
 | none_=>exact absurd (hlen ▸ hk) (by simp)
 | empty _ a=>exact absurd (hlen ▸ hk) (by simp)
 | row _ b off c' _ us hl hc hn hm hb hlt hcell hr=>
  injection hv with hA _ _
  subst hrows;refine⟨b,off,hA,hb,hlt,?_⟩;have h1:=hcell k 0 (by rw[hlen];exact hk) (by omega);have h2:=hr k (by rw[hlen];exact hk) 0 (by simp);simp only[List.getElem_map,List.getElem_cons_zero]at h2;have h3:=h2.leaf_inv;rw[h3,Nat.mul_one,Nat.add_zero]at h1;exact h1
theorem JR.toNo {X:Nat->Prop} {B bj gm:Nat} {s:JS} {vt va vp:Value} {w:World} (h:JR B X bj gm s vt va vp w):JR B noB bj gm s vt va vp w:=
 h.updX (Upd.refl _ (λ_=>False)) (λ_ h=>h.elim) (λ_ e=>e.elim)
theorem JR.ofNo {X:Nat->Prop} {B bj gm:Nat} {s:JS} {vt va vp:Value} {w:World} (h:JR B noB bj gm s vt va vp w) {w':World} (hb:Below w.heap.size w w')(hX:∀b,X b->w.heap.size<=b/\b<w'.heap.size):JR B X bj gm s vt va vp w':=
 h.updX (Upd.low hb (λ_=>False)) (λ_ h=>h.elim) (λb e=>.inr (hX b e))
theorem aH4 (B bj gm:Nat)(s:JS)(rep d:Nat->Nat)(a0 b0:Nat)(vt va vp:Value)(w:World)(K A:Nat)(hj:JR B noB bj gm s vt va vp w)(hf:Forest s.Ps rep d)(hok:s.Ok)(ha:a0<s.T.length)(hb:b0<s.T.length)
 (hA:∀l∈s.As,l.length<=A) (hz:s.T.length<=1000000) (hK:1+(A+1)*cnt rep s.T.length<=K) (hK2:K<=1000000000):
 Calls Try.prog 87 #[.pointer (some ⟨bj,0,none⟩),.int .i64 (a0:Nat),.int .i64 (b0:Nat)] w (aK4 B bj gm s (cS s.T s.As K [(a0,b0)] rep) vt va vp w):=by
 have hvt:∃gt ct,vt=.slice (some ⟨gt,0,none⟩) s.T.length ct:=by
  obtain⟨g,c,A,n,e,_⟩:=hj.tm_at ha;exact⟨g,c,e⟩
 have hva:∃ga ca,va=.slice (some ⟨ga,0,none⟩) s.T.length ca:=by
  obtain⟨g,c,u,e,_⟩:=hj.args_at (k:=a0) (by rw[hok.a];exact ha);exact⟨g,c,by rw[e,hok.a]⟩
 have hvp:∃gp cp,vp=.slice (some ⟨gp,0,none⟩) s.T.length cp:=by
  obtain⟨g,c,e,_⟩:=hj.par_at (k:=a0) (by rw[hok.p];exact ha);exact⟨g,c,by rw[e,hok.p]⟩
 obtain⟨gt,ct,rfl⟩:=hvt;obtain⟨ga,ca,rfl⟩:=hva;obtain⟨gp,cp,rfl⟩:=hvp;obtain⟨N,hN⟩:∃N,s.T.length=N:=⟨_,rfl⟩;obtain⟨r,hr⟩:∃r,cS s.T s.As K [(a0,b0)] rep=r:=⟨_,rfl⟩;rw[hr];have hpl:=hok.p;rw[hN]at hj ha hb hz hK hpl ⊢;have hbj:=(hj.own bj (.inl rfl)).2;have hjB:=hj.hB;have Hj:=Lh hj;have Hf:=Lh hf;have HN:=Lh hN;have Hr:=Lh hr;have Hok:=Lh hok;have HA:=Lh hA;have HK:=Lh hK;have Hpl:=Lh hpl;clear hj hf hN hr hok hA hK hpl;go_enter Try.func87,Try.ntmps87;go_upto_region 2 with fail
 obtain⟨hx1,hB1,hz1⟩:=pT w (.cells #[.int .i64 (a0:Nat),.int .i64 (b0:Nat)] 145);have hown1:Own (w.alloc (.cells #[.int .i64 (a0:Nat),.int .i64 (b0:Nat)] 145)) w.heap.size 145 2 (.slice (some ⟨w.heap.size,0,none⟩) 1 1) (([(a0,b0)]:List (Nat × Nat)).reverse.map dP):=
  ⟨⟨rfl,.inr ⟨w.heap.size,1,_,rfl,Nat.le_refl _,hx1,Nat.le_refl _,by unfold maxLen;omega,rfl,rfl⟩⟩,by simp[dP]⟩
 generalize w.alloc (.cells #[.int .i64 (a0:Nat),.int .i64 (b0:Nat)] 145)=w1 at hx1 hB1 hz1 hown1 ⊢;have hj1:JR B (λb=>(Value.slice (some ⟨w.heap.size,0,none⟩) 1 1).ownBlock=some b) bj gm s (.slice (some ⟨gt,0,none⟩) N ct) (.slice (some ⟨ga,0,none⟩) N ca) (.slice (some ⟨gp,0,none⟩) N cp) w1:=Hj.out.ofNo hB1 (λb e=>by injection e with e;simp only at e;omega);have Hj1:=Lh hj1;have Hown1:=Lh hown1;have HB1:=Lh hB1;clear hx1 hB1 hown1 hj1;go_loopg [7] K (λk u wr=>∃(stack:List (Nat × Nat)) (rep' d':Nat->Nat) (Ps':List Nat),cS s.T s.As k stack rep'=r/\stack.length+(A+1)*cnt rep' N<=k/\k<=1000000000/\(∀p∈stack,p.1<N/\p.2<N)/\
  JR B (λb=>u.ownBlock=some b) bj gm ⟨s.T,s.As,Ps',s.V⟩ (.slice (some ⟨gt,0,none⟩) N ct) (.slice (some ⟨ga,0,none⟩) N ca) (.slice (some ⟨gp,0,none⟩) N cp) wr/\
  JGrow bj gm (.slice (some ⟨gt,0,none⟩) N ct) (.slice (some ⟨ga,0,none⟩) N ca) (.slice (some ⟨gp,0,none⟩) N cp) (.slice (some ⟨gt,0,none⟩) N ct) (.slice (some ⟨ga,0,none⟩) N ca) (.slice (some ⟨gp,0,none⟩) N cp) w wr/\
  Forest Ps' rep' d'/\Ps'.length=N/\Own wr w.heap.size 145 2 u (stack.reverse.map dP))
 case atStart=>exact⟨[(a0,b0)],rep,d,s.Ps,Hr.out,HK.out,hK2,by simp[ha,hb],Hj1.out,JGrow.low HB1.out,Hf.out,Hpl.out,Hown1.out⟩
 obtain⟨stack,rep',d',Ps',hjf,hme,hk2,hst,hjr,hgr,hfr,hl,hown⟩:=hrel;obtain⟨Au,cu,hu,hcu,-⟩:=hown.form;rw[List.length_map,List.length_reverse]at hu hcu;subst hu;cases stack with
 | nil=>
  have hjf':(true,rep')=r:=by rw[<-hjf];cases gk <;> rfl
  have Hjf:=Lh hjf';have Hjr:=Lh hjr;have Hgr:=Lh hgr;have Hfr:=Lh hfr;have Hl:=Lh hl;clear hjf hjf' hjr hgr hfr hl hown hst hme hcu;go_wp2_with fail;go_ret;exact⟨by rw[<-Hjf.out];rfl,_,_,Hjr.out.toNo,Hgr.out,by rw[<-Hjf.out];exact Hfr.out,Hl.out.trans Hpl.out.symm⟩
 | cons p st=>
  obtain⟨a1,b1⟩:=p;obtain⟨k',rfl⟩:∃k',gk=k'+1:=⟨gk-1,by simp at hme;omega⟩;have hab:=hst (a1,b1) (by simp);have ha1:a1<N:=hab.1;have hb1:b1<N:=hab.2;have hst2:∀p∈st,p.1<N/\p.2<N:=λp hp=>hst p (List.mem_cons_of_mem _ hp)
  have hlen:((a1,b1)::st).length=st.length+1:=rfl;rw[hlen]at hown hme hjr hcu ⊢;have hci:(st.length:Int)<=(cu:Int):=by omega
  have hstl:st.length<=1000000000:=by omega
  have hrl:(((a1,b1)::st).reverse.map dP).length=st.length+1:=by simp
  obtain⟨gs,rfl,hgs1,hgs2,hcs,-⟩:=hown.row_at (k:=st.length) (by rw[hrl];omega) (by decide);have y0:=hcs 0 (by decide);have y1:=hcs 1 (by decide);have hrow:(((a1,b1)::st).reverse.map dP)[st.length]'(by rw[hrl];omega)=dP (a1,b1):=by
   simp[List.getElem_append_right]
  simp only[hrow,dP,List.getElem_cons_zero,List.getElem_cons_succ,dJ,Nat.add_zero]at y0 y1;have hown2:=hown.take (i:=st.length) (by rw[hrl];omega);have htk:(((a1,b1)::st).reverse.map dP).take st.length=st.reverse.map dP:=by
   rw[List.reverse_cons,List.map_append,List.take_append_of_le_length (by simp),List.take_of_length_le (by simp)]
  rw[htk]at hown2;have hjX:=hjr.hX;have hgsJ:=(hjX gs rfl).1;have hbjr:=(hjr.own bj (.inl rfl)).2;have Hjr:=Lh hjr;have Hgr:=Lh hgr;have Hfr:=Lh hfr;have Hl:=Lh hl;have Hown2:=Lh hown2;have Hjf:=Lh hjf;have Hme:=Lh hme;have Hst2:=Lh hst2;clear hjf hjr hgr hfr hl hown hown2 hst hme hrow hrl htk hcs hab hlen hjX hst2;go_upto_region 5 with fail
  have hbx5:=aD wr (.cells #[.int .i64 (a1:Nat),.int .i64 (b1:Nat)] 145);have hbe5:aL wr.heap.size 145 (.int .i64 (a1:Nat)) (.int .i64 (b1:Nat)) (wr.alloc (.cells #[.int .i64 (a1:Nat),.int .i64 (b1:Nat)] 145)):=heap_alloc_new wr _;generalize wr.alloc (.cells #[.int .i64 (a1:Nat),.int .i64 (b1:Nat)] 145)=w5 at hbx5 hbe5 ⊢;have hj5:JR B (λb=>(Value.slice (some ⟨gs,0,none⟩) st.length cu).ownBlock=some b) bj gm ⟨s.T,s.As,Ps',s.V⟩ (.slice (some ⟨gt,0,none⟩) N ct) (.slice (some ⟨ga,0,none⟩) N ca) (.slice (some ⟨gp,0,none⟩) N cp) w5:=Hjr.out.low hbx5;have hgr5:JGrow bj gm (.slice (some ⟨gt,0,none⟩) N ct) (.slice (some ⟨ga,0,none⟩) N ca) (.slice (some ⟨gp,0,none⟩) N cp) (.slice (some ⟨gt,0,none⟩) N ct) (.slice (some ⟨ga,0,none⟩) N ca) (.slice (some ⟨gp,0,none⟩) N cp) w w5:=Hgr.out.trans (JGrow.low hbx5);have hown5:=Hown2.out.low hbx5;have hnb5:¬JF bj gm (.slice (some ⟨gt,0,none⟩) N ct) (.slice (some ⟨ga,0,none⟩) N ca) (.slice (some ⟨gp,0,none⟩) N cp) wr.heap.size:=λe=>by have:=(Hjr.out.own _ e).2;omega
  have hz5:=hbx5.size;have Hj5:=Lh hj5;have Hgr5:=Lh hgr5;have Hown5:=Lh hown5;have Hbe5:=Lh hbe5;have Hnb5:=Lh hnb5;have HgsJ:=Lh hgsJ;clear Hjr Hgr Hown2 hbx5 hbe5 hj5 hgr5 hown5 y0 y1 hnb5 hgsJ;refine rg 10 (λ_ w'=>Upd w5 w' (JF bj gm (.slice (some ⟨gt,0,none⟩) N ct) (.slice (some ⟨ga,0,none⟩) N ca) (.slice (some ⟨gp,0,none⟩) N cp))) ?_;intro wd hwd hbd;refine⟨?_,λhS=>?_⟩
  . exact Upd.low (hwd ▸ hbd) _
  refine ta 0 (.pointer (some ⟨bj,0,none⟩)) hS λhS=>?_
  refine ta 1 (.pointer (some ⟨wr.heap.size,0,none⟩)) hS λhS=>?_
  refine tk 2 (.int .i64 (a1:Nat)) hS ?_ λhS=>?_
  . intro w' L hn hw;have o0:=(Hbe5.out.upd hw Hnb5.out).cells.1;simp[execOp,go_sem,o0]
  refine ta 4 (.pointer (some ⟨bj,0,none⟩)) hS λhS=>?_
  refine ta 5 (.pointer (some ⟨wr.heap.size,1,none⟩)) hS λhS=>?_
  refine tk 6 (.int .i64 (b1:Nat)) hS ?_ λhS=>?_
  . intro w' L hn hw;have o1:=(Hbe5.out.upd hw Hnb5.out).cells.2.1;simp[execOp,go_sem,o1]
  refine so 3 ?_;have hjd:=Hj5.out.low (hwd ▸ hbd:Below w5.heap.size w5 wd);have hc3:=rE B (λb=>(Value.slice (some ⟨gs,0,none⟩) st.length cu).ownBlock=some b) bj gm ⟨s.T,s.As,Ps',s.V⟩ rep' d' a1 (.slice (some ⟨gt,0,none⟩) N ct) (.slice (some ⟨ga,0,none⟩) N ca) (.slice (some ⟨gp,0,none⟩) N cp) wd hjd Hfr.out (by show a1<Ps'.length;rw[Hl.out];exact ha1) (by show Ps'.length<=1000000;rw[Hl.out];exact hz);refine aG ?_ hc3 ?_
  . simp[execOp,resolve,invoke,go_sem]
  rintro e w6 ⟨rfl,Ps1,hj6,hg6,hf6,hl6⟩;refine⟨_,rfl,?_⟩;refine gS ?_ λhS=>?_
  . exact hS.trans hg6.upd (λ_ h=>.inl h)
  refine so 7 ?_;have hc7:=rE B (λb=>(Value.slice (some ⟨gs,0,none⟩) st.length cu).ownBlock=some b) bj gm ⟨s.T,s.As,Ps1,s.V⟩ rep' d' b1 (.slice (some ⟨gt,0,none⟩) N ct) (.slice (some ⟨ga,0,none⟩) N ca) (.slice (some ⟨gp,0,none⟩) N cp) w6 hj6 hf6 (by show b1<Ps1.length;have:Ps1.length=Ps'.length:=hl6;rw[this,Hl.out];exact hb1) (by show Ps1.length<=1000000;have:Ps1.length=Ps'.length:=hl6;rw[this,Hl.out];exact hz);refine aG ?_ hc7 ?_
  . simp[execOp,resolve,invoke,go_sem]
  rintro e w7 ⟨rfl,Ps2,hj7,hg7,hf7,hl7⟩;refine⟨_,rfl,?_⟩;refine gS ?_ λhS=>?_
  . exact hS.trans hg7.upd (λ_ h=>.inl h)
  refine ta 8 (.int .i64 (rep' a1:Nat)) hS λhS=>?_
  refine ta 9 (.int .i64 (rep' b1:Nat)) hS λhS=>?_
  refine dn ?_;have hl2:Ps2.length=N:=by
   have h1:Ps2.length=Ps1.length:=hl7;have h2:Ps1.length=Ps'.length:=hl6;rw[h1,h2,Hl.out]
  have hra:=hf7.rep' (i:=a1) (by omega);have hrb:=hf7.rep' (i:=b1) (by omega);have hown7:=Hown5.out.upd hS (λg e e2=>HgsJ.out (by injection e with e;rw[<-e]at e2;exact e2));have hg57:JGrow bj gm (.slice (some ⟨gt,0,none⟩) N ct) (.slice (some ⟨ga,0,none⟩) N ca) (.slice (some ⟨gp,0,none⟩) N cp) (.slice (some ⟨gt,0,none⟩) N ct) (.slice (some ⟨ga,0,none⟩) N ca) (.slice (some ⟨gp,0,none⟩) N cp) w5 w7:=⟨hS,λg e=>.inl e⟩;have hz7:=hS.size;have Hj7:=Lh hj7;have Hg7:=Lh (Hgr5.out.trans hg57);have Hf7:=Lh hf7;have Hl7:=Lh hl2;have Hown7:=Lh hown7;obtain⟨x,hx⟩:∃x,rep' a1=x:=⟨_,rfl⟩;obtain⟨y,hy⟩:∃y,rep' b1=y:=⟨_,rfl⟩;rw[hx]at hra ⊢;rw[hy]at hrb ⊢;rw[hl2]at hra hrb;obtain⟨hxN,hxx⟩:=hra;obtain⟨hyN,hyy⟩:=hrb;have hbl7:=(hj7.own bj (.inl rfl)).2;have Hx:=Lh hx;have Hy:=Lh hy;have Hxx:=Lh hxx;have Hyy:=Lh hyy;clear hj6 hg6 hf6 hl6 hj7 hg7 hf7 hl7 hl2 hown7 hg57 hS hwd hbd hx hy hxx hyy Hown5 Hj5 Hbe5;by_cases hxy:x=y
  . subst hxy;have hjf2:=Hjf.out;rw[cS,if_pos (by rw[Hx.out,Hy.out])]at hjf2;have Hjf2:=Lh hjf2;clear hjf2;go_wp2_with fail;go_roundg k'
    case measure=>omega
    case rel=>exact⟨st,rep',d',Ps2,Hjf2.out,by have:=Hme.out;omega,by omega,Hst2.out,Hj7.out,Hg7.out,Hf7.out,Hl7.out,Hown7.out⟩
  have hxyi:((x:Int)==(y:Int))=false:=by simp;omega
  go_upto_region 7 with fail
  have hxT:x<s.T.length:=by rw[HN.out];exact hxN
  have hyT:y<s.T.length:=by rw[HN.out];exact hyN
  obtain⟨g',c',A1,n1,hv',t0,t1,-⟩:=Hj7.out.tm_at (k:=x) hxT;obtain rfl:=cH hv';clear hv';obtain⟨g',c',A2,n2,hv',u0,u1,-⟩:=Hj7.out.tm_at (k:=y) hyT;obtain rfl:=cH hv';clear hv';obtain⟨f1,hf1⟩:∃f1,s.T[x].fn=f1:=⟨_,rfl⟩;obtain⟨f2,hf2⟩:∃f2,s.T[y].fn=f2:=⟨_,rfl⟩;have hfx:bT s.T x=f1:=by unfold bT;rw[List.getElem?_eq_getElem hxT];exact hf1
  have hfy:bT s.T y=f2:=by unfold bT;rw[List.getElem?_eq_getElem hyT];exact hf2
  simp only[hf1]at t0;simp only[hf2]at u0;generalize s.T[x].args.length=m1 at t1;generalize s.T[y].args.length=m2 at u1;obtain⟨z0,-,-,-,-⟩:=Hj7.out.cells;have hxi:¬((N:Int)<=(x:Int)):=by omega
  have hyi:¬((N:Int)<=(y:Int)):=by omega
  have hjw7:=Hj7.out.own;have hgt7:gt<w7.heap.size:=(hjw7 gt (.inr (.inr (.inl rfl)))).2;have Hfx:=Lh hfx;have Hfy:=Lh hfy;have T0:=Lh t0;have T1:=Lh t1;have U0:=Lh u0;have U1:=Lh u1;have Z0:=Lh z0;clear hfx hfy t0 t1 u0 u1 z0 hf1 hf2 hjw7;refine rg 18 (λ_ w'=>Below w7.heap.size w7 w') ?_;intro wd hwd hbd;refine⟨?_,λhS=>?_⟩
  . exact hwd ▸ hbd
  refine ta 0 (.pointer (some ⟨bj,0,none⟩)) hS λhS=>?_
  refine ta 1 (.pointer (some ⟨bj,0,none⟩)) hS λhS=>?_
  refine ta 2 (.pointer (some ⟨bj,0,none⟩)) hS λhS=>?_
  refine tk 3 (.slice (some ⟨gt,0,none⟩) N ct) hS ?_ λhS=>?_
  . intro w' L hn hw;have o0:=(hw.cell (p:=⟨bj,0,none⟩) hbl7).trans Z0.out;simp[execOp,go_sem,o0]
  refine ta 4 (.int .i64 (x:Nat)) hS λhS=>?_
  refine tk 5 (.pointer (some ⟨gt,x*2,none⟩)) hS ?_ λhS=>?_
  . intros;simp[execOp,go_sem,hxN,hxi]
  refine tk 6 (.agg #[.int .i64 f1,.slice A1 m1 n1]) hS ?_ λhS=>?_
  . intro w' L hn hw;have o1:=(hw.cell (p:=⟨gt,x*2,none⟩) hgt7).trans T0.out;have o2:=(hw.cell (p:=⟨gt,x*2+1,none⟩) hgt7).trans T1.out;simp[execOp,go_sem,o1,o2]
  refine ta 7 (.pointer (some ⟨bj,0,none⟩)) hS λhS=>?_
  refine ta 8 (.pointer (some ⟨bj,0,none⟩)) hS λhS=>?_
  refine ta 9 (.pointer (some ⟨bj,0,none⟩)) hS λhS=>?_
  refine tk 10 (.slice (some ⟨gt,0,none⟩) N ct) hS ?_ λhS=>?_
  . intro w' L hn hw;have o0:=(hw.cell (p:=⟨bj,0,none⟩) hbl7).trans Z0.out;simp[execOp,go_sem,o0]
  refine ta 11 (.int .i64 (y:Nat)) hS λhS=>?_
  refine tk 12 (.pointer (some ⟨gt,y*2,none⟩)) hS ?_ λhS=>?_
  . intros;simp[execOp,go_sem,hyN,hyi]
  refine tk 13 (.agg #[.int .i64 f2,.slice A2 m2 n2]) hS ?_ λhS=>?_
  . intro w' L hn hw;have o3:=(hw.cell (p:=⟨gt,y*2,none⟩) hgt7).trans U0.out;have o4:=(hw.cell (p:=⟨gt,y*2+1,none⟩) hgt7).trans U1.out;simp[execOp,go_sem,o3,o4]
  refine lH 14 15 (o1:={dst:=some 11,op:=Op.alloc 87,type:=0,pos:= "unify.go:59",after:= #[],guard:=none}) (o2:={dst:=some 12,op:=Op.alloc 87,type:=0,pos:= "unify.go:59",after:= #[],guard:=none}) (d1:=11) (d2:=12) (ob:=(.cells #[.int .i64 0,.slice none 0 0] 87)) (L':= #[true,true,true,true,true,true,true,true,true,true,true,true,true,true,true,true,false,false]) (by kernel_rfl) (by kernel_rfl) (by kernel_rfl) rfl rfl rfl rfl rfl rfl rfl rfl (by decide) (λa w=>by simp[execOp,go_sem]) (λa w=>by simp[execOp,go_sem]) ?s1 ?s2 ?s12 (λb14 b15 hb14=>?_)
  case s1=>exact hS.trans ((aD _ _).mono hS.size)
  case s2=>exact hS.trans ((aD _ _).mono hS.size)
  case s12=>exact(hS.trans ((aD _ _).mono hS.size)).trans ((aD _ _).mono (by have:=hS.size;simp;omega))
  have hSw:=hS;generalize hWW:(wd.alloc (.cells #[.int .i64 0,.slice none 0 0] 87)).alloc (.cells #[.int .i64 0,.slice none 0 0] 87)=W;obtain⟨e1,e2,e3,e4,-,e6,e7,e8,e9,e10,e11,e12⟩:=pU (x0:=.int .i64 f1) (x1:=.slice A1 m1 n1) (y0:=.int .i64 f2) (y1:=.slice A2 m2 n2) hb14 hWW;simp only[Act.put,List.setIfInBounds_toArray,List.set_cons_zero,List.set_cons_succ];refine so 16 ?_;obtain⟨q0,q1,q2⟩:=e1.cells;refine bF (w':=(W.setCell ⟨b14,0,none⟩ (.int .i64 f1)).setCell ⟨b14,1,none⟩ (.slice A1 m1 n1)) (by simp[execOp,go_sem,q0,q1,q2]) ?_;refine gS ?_ λhS=>?_
  . exact hSw.trans (e6.mono hSw.size)
  refine so 17 ?_;obtain⟨q0,q1,q2⟩:=e2.cells;generalize (W.setCell ⟨b14,0,none⟩ (.int .i64 f1)).setCell ⟨b14,1,none⟩ (.slice A1 m1 n1)=W2 at q0 q1 q2 e2 e3 e4 e6 e7 e11 e12 ⊢;refine bF (w':=(W2.setCell ⟨b15,0,none⟩ (.int .i64 f2)).setCell ⟨b15,1,none⟩ (.slice A2 m2 n2)) (by simp[execOp,go_sem,q0,q1,q2]) ?_;generalize (W2.setCell ⟨b15,0,none⟩ (.int .i64 f2)).setCell ⟨b15,1,none⟩ (.slice A2 m2 n2)=w9 at e3 e4 e7 e11 e12 ⊢;refine gS ?_ λhS=>?_
  . exact hSw.trans (e7.mono hSw.size)
  refine dn ?_;have hwd7:=hSw.size;have hj9:=Hj7.out.low hS;have hgr9:=Hg7.out.trans (JGrow.low hS);have hown9:=Hown7.out.low hS;have hn11:¬JF bj gm (.slice (some ⟨gt,0,none⟩) N ct) (.slice (some ⟨ga,0,none⟩) N ca) (.slice (some ⟨gp,0,none⟩) N cp) b14:=λe=>by have:=(Hj7.out.own _ e).2;omega
  have hn12:¬JF bj gm (.slice (some ⟨gt,0,none⟩) N ct) (.slice (some ⟨ga,0,none⟩) N ca) (.slice (some ⟨gp,0,none⟩) N cp) b15:=λe=>by have:=(Hj7.out.own _ e).2;omega
  obtain⟨c0,-,-⟩:=e3.cells;obtain⟨c1,-,-⟩:=e4.cells;obtain⟨-,-,z2,-,z4⟩:=hj9.cells;have hz9:=hS.size;have Hj9:=Lh hj9;have Hgr9:=Lh hgr9;have Hown9:=Lh hown9;have He3:=Lh e3;have He4:=Lh e4;clear e1 e2 e3 e4 e6 e7 hWW hS hSw hwd hbd hj9 hgr9 hown9 q0 q1 q2 Hj7 Hg7 Hown7 T0 T1 U0 U1 Z0;have hme:=Hme.out;obtain⟨l1,l2⟩:y<Ps2.length/\x<Ps2.length:=by have:=Hl7.out;omega
  by_cases hf1:f1<0
  . by_cases hf2:f2<0
    . by_cases hlt:f1<f2
      . have hfin:=Hj9.out.setPar (k:=x) (v:=y) rfl;obtain⟨g',c',hv',p0,p1⟩:=Hj9.out.par_at (k:=x) l2;obtain rfl:=cH hv';clear hv';have hjf2:=Hjf.out;rw[cS,Hx.out,Hy.out,Hfx.out,Hfy.out]at hjf2;rw[if_neg hxy,if_pos (⟨hf1,hf2⟩:f1<0/\f2<0),if_pos hlt]at hjf2;have hcn:=kL (rep:=rep') (x:=y) (y:=x) Hyy.out Hxx.out (Ne.symm hxy) N;rw[if_pos hxN]at hcn;have hme2:st.length+(A+1)*cnt (uni rep' x y) N<=k':=by
         rw[<-hcn,Nat.mul_add]at hme;omega
        have hli:¬((N:Int)<=(x:Int)):=(by omega);have Hfin:=Lh hfin;have Hjf2:=Lh hjf2;have Hme2:=Lh hme2;have hk3:k'<=1000000000:=(by omega);clear hfin hjf2 hcn hme2 hme;go_wp2_with fail;go_roundg k'
        case measure=>omega
        case rel=>
         exact⟨st,uni rep' x y,_,Ps2.set x y,Hjf2.out,Hme2.out,hk3,Hst2.out,Hfin.out.1,Hgr9.out.trans Hfin.out.2,Hf7.out.union (by rw[Hl7.out];exact hyN) (by rw[Hl7.out];exact hxN) Hyy.out Hxx.out (Ne.symm hxy),by rw[List.length_set];exact Hl7.out,Hown9.out.upd Hfin.out.2.upd (λg e e2=>HgsJ.out (by injection e with e;rw[<-e]at e2;exact e2))⟩
      have hfin:=Hj9.out.setPar (k:=y) (v:=x) rfl;obtain⟨g',c',hv',p0,p1⟩:=Hj9.out.par_at (k:=y) l1;obtain rfl:=cH hv';clear hv';have hjf2:=Hjf.out;rw[cS,Hx.out,Hy.out,Hfx.out,Hfy.out]at hjf2;rw[if_neg hxy,if_pos (⟨hf1,hf2⟩:f1<0/\f2<0),if_neg hlt]at hjf2;have hcn:=kL (rep:=rep') (x:=x) (y:=y) Hxx.out Hyy.out hxy N;rw[if_pos hyN]at hcn;have hme2:st.length+(A+1)*cnt (uni rep' y x) N<=k':=by
       rw[<-hcn,Nat.mul_add]at hme;omega
      have hli:¬((N:Int)<=(y:Int)):=(by omega);have Hfin:=Lh hfin;have Hjf2:=Lh hjf2;have Hme2:=Lh hme2;have hk3:k'<=1000000000:=(by omega);clear hfin hjf2 hcn hme2 hme;go_wp2_with fail;go_roundg k'
      case measure=>omega
      case rel=>
       exact⟨st,uni rep' y x,_,Ps2.set y x,Hjf2.out,Hme2.out,hk3,Hst2.out,Hfin.out.1,Hgr9.out.trans Hfin.out.2,Hf7.out.union (by rw[Hl7.out];exact hxN) (by rw[Hl7.out];exact hyN) Hxx.out Hyy.out hxy,by rw[List.length_set];exact Hl7.out,Hown9.out.upd Hfin.out.2.upd (λg e e2=>HgsJ.out (by injection e with e;rw[<-e]at e2;exact e2))⟩
    have hfin:=Hj9.out.setPar (k:=x) (v:=y) rfl;obtain⟨g',c',hv',p0,p1⟩:=Hj9.out.par_at (k:=x) l2;obtain rfl:=cH hv';clear hv';have hjf2:=Hjf.out;rw[cS,Hx.out,Hy.out,Hfx.out,Hfy.out]at hjf2;rw[if_neg hxy,if_neg (λh:f1<0/\f2<0=>hf2 h.2),if_pos hf1]at hjf2;have hcn:=kL (rep:=rep') (x:=y) (y:=x) Hyy.out Hxx.out (Ne.symm hxy) N;rw[if_pos hxN]at hcn;have hme2:st.length+(A+1)*cnt (uni rep' x y) N<=k':=by
     rw[<-hcn,Nat.mul_add]at hme;omega
    have hli:¬((N:Int)<=(x:Int)):=(by omega);have Hfin:=Lh hfin;have Hjf2:=Lh hjf2;have Hme2:=Lh hme2;have hk3:k'<=1000000000:=(by omega);clear hfin hjf2 hcn hme2 hme;go_wp2_with fail;go_roundg k'
    case measure=>omega
    case rel=>
     exact⟨st,uni rep' x y,_,Ps2.set x y,Hjf2.out,Hme2.out,hk3,Hst2.out,Hfin.out.1,Hgr9.out.trans Hfin.out.2,Hf7.out.union (by rw[Hl7.out];exact hyN) (by rw[Hl7.out];exact hxN) Hyy.out Hxx.out (Ne.symm hxy),by rw[List.length_set];exact Hl7.out,Hown9.out.upd Hfin.out.2.upd (λg e e2=>HgsJ.out (by injection e with e;rw[<-e]at e2;exact e2))⟩
  by_cases hf2:f2<0
  . have hfin:=Hj9.out.setPar (k:=y) (v:=x) rfl;obtain⟨g',c',hv',p0,p1⟩:=Hj9.out.par_at (k:=y) l1;obtain rfl:=cH hv';clear hv';have hjf2:=Hjf.out;rw[cS,Hx.out,Hy.out,Hfx.out,Hfy.out]at hjf2;rw[if_neg hxy,if_neg (λh:f1<0/\f2<0=>hf1 h.1),if_neg hf1,if_pos hf2]at hjf2;have hcn:=kL (rep:=rep') (x:=x) (y:=y) Hxx.out Hyy.out hxy N;rw[if_pos hyN]at hcn;have hme2:st.length+(A+1)*cnt (uni rep' y x) N<=k':=by
     rw[<-hcn,Nat.mul_add]at hme;omega
    have hli:¬((N:Int)<=(y:Int)):=(by omega);have Hfin:=Lh hfin;have Hjf2:=Lh hjf2;have Hme2:=Lh hme2;have hk3:k'<=1000000000:=(by omega);clear hfin hjf2 hcn hme2 hme;go_wp2_with fail;go_roundg k'
    case measure=>omega
    case rel=>
     exact⟨st,uni rep' y x,_,Ps2.set y x,Hjf2.out,Hme2.out,hk3,Hst2.out,Hfin.out.1,Hgr9.out.trans Hfin.out.2,Hf7.out.union (by rw[Hl7.out];exact hxN) (by rw[Hl7.out];exact hyN) Hxx.out Hyy.out hxy,by rw[List.length_set];exact Hl7.out,Hown9.out.upd Hfin.out.2.upd (λg e e2=>HgsJ.out (by injection e with e;rw[<-e]at e2;exact e2))⟩
  obtain⟨l3,l4⟩:x<s.As.length/\y<s.As.length:=by have:=Hok.out.a;have:=HN.out;omega
  obtain⟨g',c',ux,hv',v1,-,hrx⟩:=Hj9.out.args_at (k:=x) l3;obtain rfl:=cH hv';clear hv';obtain⟨g',c',uy,hv',v2,-,hry⟩:=Hj9.out.args_at (k:=y) l4;obtain rfl:=cH hv';clear hv';obtain⟨Ax,cx,rfl,-⟩:=hrx.rd'.sl_form;obtain⟨Ay,cy,rfl,-⟩:=hry.rd'.sl_form;rw[List.length_map]at v1 v2;obtain⟨lx,hlx⟩:∃lx,s.As[x]=lx:=⟨_,rfl⟩;obtain⟨ly,hly⟩:∃ly,s.As[y]=ly:=⟨_,rfl⟩;simp only[hlx]at v1;simp only[hly]at v2;have hax:bV s.As x=lx:=by unfold bV;rw[List.getElem?_eq_getElem l3];exact hlx
  have hay:bV s.As y=ly:=by unfold bV;rw[List.getElem?_eq_getElem l4];exact hly
  have hjf2:=Hjf.out;rw[cS,Hx.out,Hy.out,Hfx.out,Hfy.out,hax,hay,if_neg hxy,if_neg (λh:f1<0/\f2<0=>hf1 h.1),if_neg hf1,if_neg hf2]at hjf2;have Hlx:=Lh hlx;have Hly:=Lh hly;have Hax:=Lh hax;have Hay:=Lh hay;have Hjf2:=Lh hjf2;obtain⟨-,z1,-,-,-⟩:=Hj9.out.cells;clear hrx hry hlx hly hax hay hjf2;go_upto_region 22 with fail
  by_cases hff:f1=f2
  . by_cases hll:lx.length=ly.length
    . have hlli:((lx.length:Int)=(ly.length:Int)):=(by omega);refine rg 25 (λ_ w'=>w'.heap=w9.heap) ?_;intro wd hwd hbd;refine⟨?_,λhS=>?_⟩
      . exact hwd
      refine ta 0 (.pointer (some ⟨b14,0,none⟩)) hS λhS=>?_
      refine tk 1 (.int .i64 f1) hS ?_ λhS=>?_
      . intro w' L hn hw;have o0:=(bP hw ⟨b14,0,none⟩).trans c0;simp[execOp,go_sem,o0]
      refine ta 2 (.pointer (some ⟨b15,0,none⟩)) hS λhS=>?_
      refine tk 3 (.int .i64 f2) hS ?_ λhS=>?_
      . intro w' L hn hw;have o1:=(bP hw ⟨b15,0,none⟩).trans c1;simp[execOp,go_sem,o1]
      refine tk 4 (.bool false) hS ?_ λhS=>?_
      . intros;simp[execOp,go_sem,hff]
      refine ta 5 (.bool false) hS λhS=>?_
      refine ta 6 (.pointer (some ⟨bj,0,none⟩)) hS λhS=>?_
      refine ta 7 (.pointer (some ⟨bj,0,none⟩)) hS λhS=>?_
      refine ta 8 (.pointer (some ⟨bj,1,none⟩)) hS λhS=>?_
      refine tk 9 (.slice (some ⟨ga,0,none⟩) N ca) hS ?_ λhS=>?_
      . intro w' L hn hw;have o2:=(bP hw ⟨bj,1,none⟩).trans z1;simp[execOp,go_sem,o2]
      refine ta 10 (.int .i64 (x:Nat)) hS λhS=>?_
      refine tk 11 (.pointer (some ⟨ga,x,none⟩)) hS ?_ λhS=>?_
      . intros;simp[execOp,go_sem,hxN,hxi]
      refine tk 12 (.slice Ax lx.length cx) hS ?_ λhS=>?_
      . intro w' L hn hw;have o3:=(bP hw ⟨ga,x,none⟩).trans v1;simp[execOp,go_sem,o3]
      refine ta 13 (.int .i64 (lx.length:Nat)) hS λhS=>?_
      refine ta 14 (.pointer (some ⟨bj,0,none⟩)) hS λhS=>?_
      refine ta 15 (.pointer (some ⟨bj,0,none⟩)) hS λhS=>?_
      refine ta 16 (.pointer (some ⟨bj,1,none⟩)) hS λhS=>?_
      refine tk 17 (.slice (some ⟨ga,0,none⟩) N ca) hS ?_ λhS=>?_
      . intro w' L hn hw;have o2:=(bP hw ⟨bj,1,none⟩).trans z1;simp[execOp,go_sem,o2]
      refine ta 18 (.int .i64 (y:Nat)) hS λhS=>?_
      refine tk 19 (.pointer (some ⟨ga,y,none⟩)) hS ?_ λhS=>?_
      . intros;simp[execOp,go_sem,hyN,hyi]
      refine tk 20 (.slice Ay ly.length cy) hS ?_ λhS=>?_
      . intro w' L hn hw;have o4:=(bP hw ⟨ga,y,none⟩).trans v2;simp[execOp,go_sem,o4]
      refine ta 21 (.int .i64 (ly.length:Nat)) hS λhS=>?_
      refine tk 22 (.bool false) hS ?_ λhS=>?_
      . intros;simp[execOp,go_sem,hlli]
      refine ta 23 (.bool false) hS λhS=>?_
      refine ta 24 (.bool false) hS λhS=>?_
      refine dn ?_;have hb10:Below w9.heap.size w9 wd:=hwd ▸ hbd;have hj10:=Hj9.out.low hb10;have hfin:=hj10.setPar (k:=y) (v:=x) rfl;obtain⟨g',c',hv',p0,p1⟩:=hj10.par_at (k:=y) l1;obtain rfl:=cH hv';clear hv';obtain⟨-,-,z2',-,z4'⟩:=hj10.cells;have hjf3:=Hjf2.out;rw[if_neg (by rintro(h | h);exact h hff;exact h hll)]at hjf3;have hcn:=kL (rep:=rep') (x:=x) (y:=y) Hxx.out Hyy.out hxy N;rw[if_pos hyN]at hcn;have hlA:lx.length<=A:=HA.out lx (by rw[<-Hlx.out];exact List.getElem_mem l3);have hme2:st.length+A+(A+1)*cnt (uni rep' y x) N<=k':=by
       rw[<-hcn,Nat.mul_add]at hme;omega
      have Hfin:=Lh hfin;have Hjf3:=Lh hjf3;have Hme2:=Lh hme2;have Hgr10:=Lh ((Hgr9.out.trans (JGrow.low hb10)).trans hfin.2);have Hown10:=Lh ((Hown9.out.low hb10).upd hfin.2.upd (λg e e2=>HgsJ.out (by injection e with e;rw[<-e]at e2;exact e2)));have hk3:k'<=1000000000:=(by omega);clear hj10 hfin hjf3 hcn hme2 hme hS;go_upto_region 9 with fail
      have hj11:=Hfin.out.1;rw[show dJ x=.int .i64 (x:Nat)from rfl]at hj11 Hgr10 Hown10;have hup11:wd.heap.size<=(wd.setCell ⟨gp,y,none⟩ (.int .i64 (x:Nat))).heap.size:=(aM _).size;have hzd9:=hb10.size;generalize wd.setCell ⟨gp,y,none⟩ (.int .i64 (x:Nat))=w11 at hj11 Hgr10 Hown10 hup11 ⊢;obtain⟨g',c',ux,hv',v3,-,hrx⟩:=hj11.args_at (k:=x) l3;obtain rfl:=cH hv';clear hv';obtain⟨Ax',cx',rfl,-⟩:=hrx.rd'.sl_form;rw[List.length_map]at v3;simp only[Hlx.out]at v3;obtain⟨-,z3,-,-,-⟩:=hj11.cells;have Hj11:=Lh hj11;have Hwz:=Lh (Hgr10.out.upd.size);have hst11:∀b,JF bj gm (.slice (some ⟨gt,0,none⟩) N ct) (.slice (some ⟨ga,0,none⟩) N ca) (.slice (some ⟨gp,0,none⟩) N cp) b->b<w11.heap.size:=λb e=>(hj11.own b e).2
      clear hj11 hrx Hfin z2' z4' p0 p1 v1 v2 z1 c0 c1 z2 z4;have Hst11:=Lh hst11;have hzl:(lx.zip ly).length=lx.length:=(by rw[List.length_zip];omega);have Hzl:=Lh hzl;clear hst11 hzl;go_wp2_with fail;go_loopw [7,72] (λu i wi=>∃j:Nat,j<=lx.length/\i=.int .i64 j/\JR B (λb=>u.ownBlock=some b) bj gm ⟨s.T,s.As,Ps2.set y x,s.V⟩ (.slice (some ⟨gt,0,none⟩) N ct) (.slice (some ⟨ga,0,none⟩) N ca) (.slice (some ⟨gp,0,none⟩) N cp) wi/\JGrow bj gm (.slice (some ⟨gt,0,none⟩) N ct) (.slice (some ⟨ga,0,none⟩) N ca) (.slice (some ⟨gp,0,none⟩) N cp) (.slice (some ⟨gt,0,none⟩) N ct) (.slice (some ⟨ga,0,none⟩) N ca) (.slice (some ⟨gp,0,none⟩) N cp) w wi/\Own wi w.heap.size 145 2 u ((st.reverse++(lx.zip ly).take j).map dP)) (λ_ i _=>lx.length-(intOf i).toNat)
      case atStart=>exact⟨0,Nat.zero_le _,rfl,Hj11.out,Hgr10.out,by simpa using Hown10.out⟩
      obtain⟨j,hj,rfl,hji,hgi,howni⟩:=hrel;have hui:=howni.lt;have hjio:=hji.own;have hXi:=hji.hX;by_cases hlt:j<lx.length
      . have hlt2:j<ly.length:=(by omega);obtain⟨g',c',ux,hv',i1,-,hrx⟩:=hji.args_at (k:=x) l3;obtain rfl:=cH hv';clear hv';obtain⟨g',c',uy,hv',i2,-,hry⟩:=hji.args_at (k:=y) l4;obtain rfl:=cH hv';clear hv';obtain⟨Ax2,cx2,rfl,-⟩:=hrx.rd'.sl_form;obtain⟨Ay2,cy2,rfl,-⟩:=hry.rd'.sl_form;rw[List.length_map]at i1 i2 hrx hry;simp only[Hlx.out]at i1 hrx;simp only[Hly.out]at i2 hry;obtain⟨abx,offx,rfl,hPx,hltx,i3⟩:=hrx.ns_at hlt;obtain⟨aby,offy,rfl,hPy,hlty,i4⟩:=hry.ns_at hlt2;obtain⟨q1,hq1⟩:∃q,lx[j]=q:=⟨_,rfl⟩;obtain⟨q2,hq2⟩:∃q,ly[j]=q:=⟨_,rfl⟩;rw[hq1]at i3;rw[hq2]at i4;obtain⟨-,i0,-,-,-⟩:=hji.cells;have hcl:∀w',Upd wr w' (λb=>u7.ownBlock=some b)->w'.cell? ⟨bj,1,none⟩=some (.slice (some ⟨ga,0,none⟩) N ca)/\w'.cell? ⟨ga,x,none⟩=some (.slice (some ⟨abx,offx,none⟩) lx.length cx2)/\w'.cell? ⟨ga,y,none⟩=some (.slice (some ⟨aby,offy,none⟩) ly.length cy2)/\
         w'.cell? ⟨abx,offx+j,none⟩=some (.int .i64 (q1:Nat))/\w'.cell? ⟨aby,offy+j,none⟩=some (.int .i64 (q2:Nat)):=by
         intro w' h;exact⟨(World.cell?_of_block (a:=⟨bj,1,none⟩) (h.block bj (hjio _ (.inl rfl)).2 (λe=>(hXi _ e).1 (.inl rfl)))).trans i0,
          (World.cell?_of_block (a:=⟨ga,x,none⟩) (h.block ga (hjio _ (.inr (.inr (.inr (.inl rfl))))).2 (λe=>(hXi _ e).1 (.inr (.inr (.inr (.inl rfl))))))).trans i1,
          (World.cell?_of_block (a:=⟨ga,y,none⟩) (h.block ga (hjio _ (.inr (.inr (.inr (.inl rfl))))).2 (λe=>(hXi _ e).1 (.inr (.inr (.inr (.inl rfl))))))).trans i2,
          (World.cell?_of_block (a:=⟨abx,offx+j,none⟩) (h.block abx hltx hPx.2.2)).trans i3,(World.cell?_of_block (a:=⟨aby,offy+j,none⟩) (h.block aby hlty hPy.2.2)).trans i4⟩
        have hsn:(st.reverse++(lx.zip ly).take (j+1)).map dP=(st.reverse++(lx.zip ly).take j).map dP++[[dJ q1,dJ q2]]:=by
         rw[List.take_succ_eq_append_getElem (by rw[Hzl.out];exact hlt),<-List.append_assoc,List.map_append];simp[dP,hq1,hq2]
        have hxl:¬((lx.length:Int)<=(j:Int)):=(by omega);have hyl:¬((ly.length:Int)<=(j:Int)):=(by omega);have hrl2:((st.reverse++(lx.zip ly).take j).map dP).length=st.length+j:=by
         rw[List.length_map,List.length_append,List.length_reverse,List.length_take,Hzl.out];omega
        have hlA2:lx.length<=1000000000:=(by have:=Hme2.out;omega);have Hcl:=Lh hcl;have Hsn:=Lh hsn;have Hji:=Lh hji;have Hgi:=Lh hgi;have Howni:=Lh howni;have Hrl2:=Lh hrl2;have hzi:=hgi.upd.size;clear hcl hsn hji hgi howni i0 i1 i2 i3 i4 hrx hry hq1 hq2 hrl2 z3 v3;go_upto_region 12 with fail
        refine rg 25 (λ_ w'=>Upd wr w' (λb=>u7.ownBlock=some b)) ?_;intro wd hwd hbd;refine⟨?_,λhS=>?_⟩
        . exact Upd.low (hwd ▸ hbd) _
        refine ta 0 (u7) hS λhS=>?_
        refine ta 1 (.pointer (some ⟨bj,0,none⟩)) hS λhS=>?_
        refine ta 2 (.pointer (some ⟨bj,0,none⟩)) hS λhS=>?_
        refine ta 3 (.pointer (some ⟨bj,1,none⟩)) hS λhS=>?_
        refine tk 4 (.slice (some ⟨ga,0,none⟩) N ca) hS ?_ λhS=>?_
        . intro w' L hn hw;have hh:=Hcl.out _ hw;simp[execOp,go_sem,hh.1]
        refine ta 5 (.int .i64 (x:Nat)) hS λhS=>?_
        refine tk 6 (.pointer (some ⟨ga,x,none⟩)) hS ?_ λhS=>?_
        . intros;simp[execOp,go_sem,hxN,hxi]
        refine tk 7 (.slice (some ⟨abx,offx,none⟩) lx.length cx2) hS ?_ λhS=>?_
        . intro w' L hn hw;have hh:=Hcl.out _ hw;simp[execOp,go_sem,hh.2.1]
        refine ta 8 (.int .i64 (j:Nat)) hS λhS=>?_
        refine tk 9 (.pointer (some ⟨abx,offx+j,none⟩)) hS ?_ λhS=>?_
        . intros;simp[execOp,go_sem,hlt,hxl]
        refine tk 10 (.int .i64 (q1:Nat)) hS ?_ λhS=>?_
        . intro w' L hn hw;have hh:=Hcl.out _ hw;simp[execOp,go_sem,hh.2.2.2.1]
        refine ta 11 (.pointer (some ⟨bj,0,none⟩)) hS λhS=>?_
        refine ta 12 (.pointer (some ⟨bj,0,none⟩)) hS λhS=>?_
        refine ta 13 (.pointer (some ⟨bj,1,none⟩)) hS λhS=>?_
        refine tk 14 (.slice (some ⟨ga,0,none⟩) N ca) hS ?_ λhS=>?_
        . intro w' L hn hw;have hh:=Hcl.out _ hw;simp[execOp,go_sem,hh.1]
        refine ta 15 (.int .i64 (y:Nat)) hS λhS=>?_
        refine tk 16 (.pointer (some ⟨ga,y,none⟩)) hS ?_ λhS=>?_
        . intros;simp[execOp,go_sem,hyN,hyi]
        refine tk 17 (.slice (some ⟨aby,offy,none⟩) ly.length cy2) hS ?_ λhS=>?_
        . intro w' L hn hw;have hh:=Hcl.out _ hw;simp[execOp,go_sem,hh.2.2.1]
        refine ta 18 (.int .i64 (j:Nat)) hS λhS=>?_
        refine tk 19 (.pointer (some ⟨aby,offy+j,none⟩)) hS ?_ λhS=>?_
        . intros;simp[execOp,go_sem,hlt2,hyl]
        refine tk 20 (.int .i64 (q2:Nat)) hS ?_ λhS=>?_
        . intro w' L hn hw;have hh:=Hcl.out _ hw;simp[execOp,go_sem,hh.2.2.2.2]
        refine ta 21 (.agg #[.int .i64 (q1:Nat),.int .i64 (q2:Nat)]) hS λhS=>?_
        refine so 22 ?_;refine aE (v:=.slice (some ⟨wd.heap.size,0,none⟩) 1 1) (w':=wd.alloc (.cells #[.int .i64 (q1:Nat),.int .i64 (q2:Nat)] 145)) (by simp[execOp,go_sem]) ?_;refine gS ?_ λhS=>?_
        . exact hS.alloc _
        refine sl 23 ?_;refine bN _ rfl (.tmp 75) (.tmp 97) _ rfl aP3 (base:=w.heap.size) (v:=u7) (rows:=(st.reverse++(lx.zip ly).take j).map dP) (by simp[go_sem]) ((Howni.out.low (hwd ▸ hbd:Below wr.heap.size wr wd)).alloc _) (g:=wd.heap.size) (by simp[go_sem]) (heap_alloc_new wd _) rfl (by intro y hy;simp at hy;rcases hy with rfl | rfl <;> rfl) (by rw[Hrl2.out];omega) (by rw[Hrl2.out];unfold maxLen;omega) (by rw[cQ];have:=hbd.size;have:wd.heap.size=wr.heap.size:=(by rw[hwd]);omega) ?_;intro v12 w12 hown12 hup12 hat12;refine gL ?_ λhS=>?_
        . exact hS.trans hup12 (λ_ h=>.inl h)
        refine ta 24 (v12) hS λhS=>?_
        refine dn ?_;have hbw:Below wr.heap.size wr wd:=hwd ▸ hbd;have hj12:JR B (λb=>v12.ownBlock=some b) bj gm ⟨s.T,s.As,Ps2.set y x,s.V⟩ (.slice (some ⟨gt,0,none⟩) N ct) (.slice (some ⟨ga,0,none⟩) N ca) (.slice (some ⟨gp,0,none⟩) N cp) w12:=
         ((
          Hji.out.low hbw).low (aD wd _)).updX hup12 (λb e=>⟨by have:=(hui b e).1;omega,.inl e⟩) (λb e=>by
          rcases hat12 with e2 | e2
          . exact .inl (e2 ▸ e)
          have e:v12.ownBlock=some b:=e;rw[e2]at e;injection e with e
          exact .inr ⟨by omega,(hown12.lt b (by rw[e2,e])).2⟩)
        have hg12:JGrow bj gm (.slice (some ⟨gt,0,none⟩) N ct) (.slice (some ⟨ga,0,none⟩) N ca) (.slice (some ⟨gp,0,none⟩) N cp) (.slice (some ⟨gt,0,none⟩) N ct) (.slice (some ⟨ga,0,none⟩) N ca) (.slice (some ⟨gp,0,none⟩) N cp) w w12:=⟨((Hgi.out.trans (JGrow.low hbw)).upd.alloc _).trans hup12 (λi e=>.inr (hui i e).1),λg e=>.inl e⟩;have Hj12:=Lh hj12;have Hg12:=Lh hg12;have Ho12:=Lh hown12;clear hj12 hg12 hown12 hup12 hat12 hS hwd hbd hbw;go_wp2_with fail;go_roundw
        case rel=>exact⟨j+1,by omega,by go_num,Hj12.out,Hg12.out,by rw[Hsn.out];exact Ho12.out⟩
        case measure=>simp[intOf];omega
      obtain rfl:j=lx.length:=by omega
      have htk:(lx.zip ly).take lx.length=lx.zip ly:=List.take_of_length_le (by rw[Hzl.out];exact Nat.le_refl _);rw[htk]at howni;have Hji:=Lh hji;have Hgi:=Lh hgi;have Howni:=Lh howni;clear hji hgi howni htk z3 v3;go_wp2_with fail;go_roundg k'
      case measure=>omega
      case rel=>
       refine⟨(lx.zip ly).reverse++st,uni rep' y x,_,Ps2.set y x,Hjf3.out,?_,hk3,?_,Hji.out,Hgi.out,Hf7.out.union (by rw[Hl7.out];exact hxN) (by rw[Hl7.out];exact hyN) Hxx.out Hyy.out hxy,by rw[List.length_set];exact Hl7.out,?_⟩
       . rw[List.length_append,List.length_reverse,Hzl.out];have:=Hme2.out;omega
       . intro p hp;rcases List.mem_append.1 hp with hp | hp
         . have hp:=List.mem_reverse.1 hp;obtain⟨h1,h2⟩:=List.of_mem_zip (a:=p.1) (b:=p.2) hp;have k1:=Hok.out.ax lx (by rw[<-Hlx.out];exact List.getElem_mem l3) _ h1;have k2:=Hok.out.ax ly (by rw[<-Hly.out];exact List.getElem_mem l4) _ h2;rw[HN.out]at k1 k2;exact⟨k1,k2⟩
         exact Hst2.out p hp
       rw[List.reverse_append,List.reverse_reverse];exact Howni.out
    have hlli:¬((lx.length:Int)=(ly.length:Int)):=(by omega);refine rg 25 (λ_ w'=>w'.heap=w9.heap) ?_;intro wd hwd hbd;refine⟨?_,λhS=>?_⟩
    . exact hwd
    refine ta 0 (.pointer (some ⟨b14,0,none⟩)) hS λhS=>?_
    refine tk 1 (.int .i64 f1) hS ?_ λhS=>?_
    . intro w' L hn hw;have o0:=(bP hw ⟨b14,0,none⟩).trans c0;simp[execOp,go_sem,o0]
    refine ta 2 (.pointer (some ⟨b15,0,none⟩)) hS λhS=>?_
    refine tk 3 (.int .i64 f2) hS ?_ λhS=>?_
    . intro w' L hn hw;have o1:=(bP hw ⟨b15,0,none⟩).trans c1;simp[execOp,go_sem,o1]
    refine tk 4 (.bool false) hS ?_ λhS=>?_
    . intros;simp[execOp,go_sem,hff]
    refine ta 5 (.bool false) hS λhS=>?_
    refine ta 6 (.pointer (some ⟨bj,0,none⟩)) hS λhS=>?_
    refine ta 7 (.pointer (some ⟨bj,0,none⟩)) hS λhS=>?_
    refine ta 8 (.pointer (some ⟨bj,1,none⟩)) hS λhS=>?_
    refine tk 9 (.slice (some ⟨ga,0,none⟩) N ca) hS ?_ λhS=>?_
    . intro w' L hn hw;have o2:=(bP hw ⟨bj,1,none⟩).trans z1;simp[execOp,go_sem,o2]
    refine ta 10 (.int .i64 (x:Nat)) hS λhS=>?_
    refine tk 11 (.pointer (some ⟨ga,x,none⟩)) hS ?_ λhS=>?_
    . intros;simp[execOp,go_sem,hxN,hxi]
    refine tk 12 (.slice Ax lx.length cx) hS ?_ λhS=>?_
    . intro w' L hn hw;have o3:=(bP hw ⟨ga,x,none⟩).trans v1;simp[execOp,go_sem,o3]
    refine ta 13 (.int .i64 (lx.length:Nat)) hS λhS=>?_
    refine ta 14 (.pointer (some ⟨bj,0,none⟩)) hS λhS=>?_
    refine ta 15 (.pointer (some ⟨bj,0,none⟩)) hS λhS=>?_
    refine ta 16 (.pointer (some ⟨bj,1,none⟩)) hS λhS=>?_
    refine tk 17 (.slice (some ⟨ga,0,none⟩) N ca) hS ?_ λhS=>?_
    . intro w' L hn hw;have o2:=(bP hw ⟨bj,1,none⟩).trans z1;simp[execOp,go_sem,o2]
    refine ta 18 (.int .i64 (y:Nat)) hS λhS=>?_
    refine tk 19 (.pointer (some ⟨ga,y,none⟩)) hS ?_ λhS=>?_
    . intros;simp[execOp,go_sem,hyN,hyi]
    refine tk 20 (.slice Ay ly.length cy) hS ?_ λhS=>?_
    . intro w' L hn hw;have o4:=(bP hw ⟨ga,y,none⟩).trans v2;simp[execOp,go_sem,o4]
    refine ta 21 (.int .i64 (ly.length:Nat)) hS λhS=>?_
    refine tk 22 (.bool true) hS ?_ λhS=>?_
    . intros;simp[execOp,go_sem,hlli]
    refine ta 23 (.bool true) hS λhS=>?_
    refine ta 24 (.bool true) hS λhS=>?_
    refine dn ?_;have hres:(false,rep')=r:=(by have:=Hjf2.out;rw[if_pos (Or.inr hll)]at this;exact this);have Hres:=Lh hres;have Hbd:=Lh (hwd ▸ hbd:Below w9.heap.size w9 wd);clear hres hS hwd hbd;go_wp2_with fail;go_ret;exact⟨by rw[<-Hres.out];rfl,_,_,(Hj9.out.low Hbd.out).toNo,Hgr9.out.trans (JGrow.low Hbd.out),by rw[<-Hres.out];exact Hf7.out,Hl7.out.trans Hpl.out.symm⟩
  skip
  refine rg 25 (λ_ w'=>w'.heap=w9.heap) ?_;intro wd hwd hbd;refine⟨?_,λhS=>?_⟩
  . exact hwd
  refine ta 0 (.pointer (some ⟨b14,0,none⟩)) hS λhS=>?_
  refine tk 1 (.int .i64 f1) hS ?_ λhS=>?_
  . intro w' L hn hw;have o0:=(bP hw ⟨b14,0,none⟩).trans c0;simp[execOp,go_sem,o0]
  refine ta 2 (.pointer (some ⟨b15,0,none⟩)) hS λhS=>?_
  refine tk 3 (.int .i64 f2) hS ?_ λhS=>?_
  . intro w' L hn hw;have o1:=(bP hw ⟨b15,0,none⟩).trans c1;simp[execOp,go_sem,o1]
  refine tk 4 (.bool true) hS ?_ λhS=>?_
  . intros;simp[execOp,go_sem,hff]
  refine ta 5 (.bool true) hS λhS=>?_
  refine sk 6 hS λhS=>?_
  refine sk 7 hS λhS=>?_
  refine sk 8 hS λhS=>?_
  refine sk 9 hS λhS=>?_
  refine sk 10 hS λhS=>?_
  refine sk 11 hS λhS=>?_
  refine sk 12 hS λhS=>?_
  refine sk 13 hS λhS=>?_
  refine sk 14 hS λhS=>?_
  refine sk 15 hS λhS=>?_
  refine sk 16 hS λhS=>?_
  refine sk 17 hS λhS=>?_
  refine sk 18 hS λhS=>?_
  refine sk 19 hS λhS=>?_
  refine sk 20 hS λhS=>?_
  refine sk 21 hS λhS=>?_
  refine sk 22 hS λhS=>?_
  refine ta 23 (.bool true) hS λhS=>?_
  refine ta 24 (.bool true) hS λhS=>?_
  refine dn ?_;have hres:(false,rep')=r:=by have:=Hjf2.out;rw[if_pos (Or.inl hff)]at this;exact this
  have Hres:=Lh hres;have Hbd:=Lh (hwd ▸ hbd:Below w9.heap.size w9 wd);clear hres hS hwd hbd;go_wp2_with fail;go_ret;exact⟨by rw[<-Hres.out];rfl,_,_,(Hj9.out.low Hbd.out).toNo,Hgr9.out.trans (JGrow.low Hbd.out),by rw[<-Hres.out];exact Hf7.out,Hl7.out.trans Hpl.out.symm⟩
section
variable (T:List Tm) (As:List (List Nat)) (rep:Nat->Nat)
mutual
inductive TreeR:Nat->Tm->Prop
 | mk (n:Nat) (f:Int) (xs:List Tm) (hf:f=bT T (rep n)) (hx:TreesR (bV As (rep n)) xs):TreeR n (.mk f xs)
inductive TreesR:List Nat->List Tm->Prop
 | nil:TreesR [] []
 | cons (n:Nat) (ns:List Nat) (x:Tm) (xs:List Tm) (h:TreeR n x) (hs:TreesR ns xs):TreesR (n::ns) (x::xs)
end
end
section
variable {T:List Tm} {As:List (List Nat)} {rep:Nat->Nat}
theorem TreesR.len {ns:List Nat} {xs:List Tm} (h:TreesR T As rep ns xs):ns.length=xs.length:=by
 induction ns generalizing xs with
 | nil=>cases h;rfl
 | cons n ns ih=>cases h with | cons _ _ _ _ _ hs=>simp[ih hs]
mutual
theorem TreeR.det:∀(x y:Tm) (n:Nat),TreeR T As rep n x->TreeR T As rep n y->x=y
 | .mk f xs,.mk g ys,n,hx,hy=>by
  cases hx with
  | mk _ _ _ hf hx=>
   cases hy with
   | mk _ _ _ hg hy=>rw[hf,hg,TreesR.det xs ys _ hx hy]
theorem TreesR.det:∀(xs ys:List Tm) (ns:List Nat),TreesR T As rep ns xs->TreesR T As rep ns ys->xs=ys
 | [],[],ns,h,h2=>rfl
 | [],y::ys,ns,h,h2=>by have h3:=h.len;have h4:=h2.len;rw[h3]at h4;simp at h4
 | x::xs,[],ns,h,h2=>by have h3:=h.len;have h4:=h2.len;rw[h3]at h4;simp at h4
 | x::xs,y::ys,ns,h,h2=>by
  cases h with
  | cons n ns' _ _ h hs=>
   cases h2 with
   | cons _ _ _ _ k ks=>rw[TreeR.det x y n h k,TreesR.det xs ys ns' hs ks]
end
theorem TreeR.of_rep {n m:Nat} {x:Tm} (h:TreeR T As rep n x)(e:rep n=rep m):TreeR T As rep m x:=by
 cases h with
 | mk _ f xs hf hx=>exact .mk _ _ _ (by rw[<-e];exact hf) (by rw[<-e];exact hx)
theorem TreesR.mem {ns:List Nat} {xs:List Tm} (h:TreesR T As rep ns xs) {n:Nat} (hn:n∈ns):∃x,TreeR T As rep n x/\aK x<=aI xs:=by
 induction ns generalizing xs with
 | nil=>cases hn
 | cons m ns ih=>
  cases h with
  | cons _ _ x xs h hs=>
   rcases List.mem_cons.1 hn with rfl | hn
   . exact⟨x,h,by simp[aI]⟩
   obtain⟨y,h1,h2⟩:=ih hs hn;exact⟨y,h1,by simp only[aI];omega⟩
theorem TreesR.at_ {ns:List Nat} {xs:List Tm} (h:TreesR T As rep ns xs) {k:Nat} (hk:k<ns.length)(hk':k<xs.length):TreeR T As rep ns[k] xs[k]:=by
 induction ns generalizing xs k with
 | nil=>simp at hk
 | cons m ns ih=>
  cases h with
  | cons _ _ x xs h hs=>
   cases k with
   | zero=>exact h
   | succ k=>exact ih hs (by simpa using hk) (by simpa using hk')
theorem TreesR.snoc {ns:List Nat} {xs:List Tm} (h:TreesR T As rep ns xs) {n:Nat} {x:Tm} (hx:TreeR T As rep n x):TreesR T As rep (ns++[n]) (xs++[x]):=by
 induction ns generalizing xs with
 | nil=>cases h;exact .cons _ _ _ _ hx .nil
 | cons m ns ih=>cases h with | cons _ _ y ys h hs=>exact .cons _ _ _ _ h (ih hs)
inductive Desc (As:List (List Nat))(rep:Nat->Nat):Nat->Nat->Prop
 | one (a b c:Nat) (h:c∈bV As (rep a)) (e:rep c=rep b):Desc As rep a b
 | more (a b c:Nat) (h:Desc As rep a b) (k:Desc As rep b c):Desc As rep a c
theorem Desc.to_rep {a b b':Nat} (h:Desc As rep a b)(e:rep b=rep b'):Desc As rep a b':=by
 induction h with
 | one a b c h k=>exact .one a b' c h (k.trans e)
 | more a b c h k _ ih2=>exact .more a b b' h (ih2 e)
theorem Desc.less {a b:Nat} (h:Desc As rep a b) {x:Tm} (hx:TreeR T As rep a x):∃y,TreeR T As rep b y/\aK y<aK x:=by
 induction h generalizing x with
 | one a b c h e=>
  cases hx with
  | mk _ f xs hf hs=>
   obtain⟨y,h1,h2⟩:=hs.mem h;exact⟨y,h1.of_rep e,by simp only[aK];omega⟩
 | more a b c _ _ ih1 ih2=>
  obtain⟨y,h1,h2⟩:=ih1 hx;obtain⟨z,h3,h4⟩:=ih2 h1;exact⟨z,h3,by omega⟩
theorem Desc.loop {a:Nat} (h:Desc As rep a a):¬∃x,TreeR T As rep a x:=by
 rintro⟨x,hx⟩;obtain⟨y,h1,h2⟩:=h.less hx;rw[TreeR.det _ _ _ h1 hx]at h2;omega
end
def lM (x:Tm):Nat:=min (aK x) 301
abbrev KnF:=Int->Option (Option (Nat × Nat))
def nS:Option (Nat × Nat)->Value
 | none=>.agg #[.int .i64 0,.int .i64 0,.bool true]
 | some p=>.agg #[.int .i64 (p.1:Nat),.int .i64 (p.2:Nat),.bool false]
def gX (x:Tm):Nat × Nat:=(lM x,dF x)
def pW (Kn:KnF):Nat->Nat
 | 0=>0
 | n+1=>pW Kn n+if (Kn (n:Int)).isNone then 1 else 0
theorem nR {Kn Kn':KnF} (h:∀(x:Nat) v,Kn (x:Int)=some v->∃v',Kn' (x:Int)=some v'):∀n,pW Kn' n<=pW Kn n
 | 0=>Nat.le_refl _
 | n+1=>by
  have ih:=nR h n;simp only[pW];cases hk:Kn (n:Int)with
  | none=>simp only[Option.isNone_none,if_true];split <;> omega
  | some v=>
   obtain⟨v',hv⟩:=h _ v hk;rw[hv];simp
   exact ih
theorem wH {Kn:KnF} {m:Nat} (hk:Kn (m:Int)=none)(v:Option (Nat × Nat)):∀n,m<n->pW (λy=>if y=(m:Int)then some v else Kn y) n<pW Kn n
 | 0,h=>by omega
 | n+1,h=>by
  have hm:=nR (Kn:=Kn) (Kn':=λy=>if y=(m:Int)then some v else Kn y) (λx u hu=>by by_cases e:(x:Int)=(m:Int) <;> simp[e,hu]) n;simp only[pW];by_cases hmn:m=n
  . subst hmn;simp only[if_true,hk,Option.isNone_none,Option.isNone_some];simp
    omega
  have ih:=wH hk v n (by omega);have:¬((n:Int)=(m:Int)):=λe=>hmn (by omega)
  simp only[if_neg this];split <;> omega
theorem uT (Kn:KnF):∀n,pW Kn n<=n
 | 0=>Nat.le_refl _
 | n+1=>by have:=uT Kn n;simp only[pW];split <;> omega
def kV (Kn:KnF):Nat->Nat
 | 0=>0
 | n+1=>kV Kn n+match Kn (n:Int)with | some (some _)=>1 | _=>0
theorem uR (Kn:KnF):∀n,kV Kn n<=n
 | 0=>Nat.le_refl _
 | n+1=>by have:=uR Kn n;simp only[kV];split <;> omega
theorem kK {Kn Kn':KnF} (h:∀(x:Nat) v,Kn (x:Int)=some (some v)->∃v',Kn' (x:Int)=some (some v')):∀n,kV Kn n<=kV Kn' n
 | 0=>Nat.le_refl _
 | n+1=>by
  have ih:=kK h n;simp only[kV];cases hk:Kn (n:Int)with
  | none=>simp only;split <;> omega
  | some v=>
   cases v with
   | none=>simp only;split <;> omega
   | some p=>
    obtain⟨v',hv⟩:=h _ p hk;rw[hv];simp only;omega
theorem wG {Kn:KnF} {m:Nat} (hk:∀p,Kn (m:Int)≠some (some p))(p:Nat × Nat):∀n,m<n->kV Kn n<kV (λy=>if y=(m:Int)then some (some p)else Kn y) n
 | 0,h=>by omega
 | n+1,h=>by
  have hm:=kK (Kn:=Kn) (Kn':=λy=>if y=(m:Int)then some (some p)else Kn y) (λx u hu=>by by_cases e:(x:Int)=(m:Int) <;> simp[e,hu]) n;simp only[kV];by_cases hmn:m=n
  . subst hmn;simp only[if_true];cases h2:Kn (m:Int)with
    | none=>omega
    | some v=>
     cases v with
     | none=>omega
     | some q=>exact absurd h2 (hk q)
  have ih:=wG hk p n (by omega);have:¬((n:Int)=(m:Int)):=λe=>hmn (by omega)
  simp only[if_neg this];split <;> omega
def aG1 (T:List Tm)(As:List (List Nat))(rep:Nat->Nat)(N:Nat)(Kn:KnF):Prop:=∀(m:Nat) p,Kn (m:Int)=some (some p)->(∃x,TreeR T As rep m x/\p=gX x)/\p.2<=kV Kn N
theorem aG6 (a b:Nat):min (min (a+1) 301+min b 301) 301=min (a+b+1) 301:=by omega
def fG (b:Nat)(t:TypeId)(x y z:Value)(w:World):Prop:=w.heap[b]? =some (.cells #[x,y,z] t (0,0))
section
variable {b:Nat} {t:TypeId} {x y z:Value} {w w':World}
theorem fG.lt (h:fG b t x y z w):b<w.heap.size:=(Array.getElem?_eq_some_iff.1 h).1
theorem fG.cells (h:fG b t x y z w):w.cell? ⟨b,0,none⟩=some x/\w.cell? ⟨b,1,none⟩=some y/\w.cell? ⟨b,2,none⟩=some z/\∀o,w.frozen? ⟨b,o,none⟩=false:=
 ⟨by rw[cell_of_row w b 0 _ _ _ h];rfl,by rw[cell_of_row w b 1 _ _ _ h];rfl,by rw[cell_of_row w b 2 _ _ _ h];rfl,λo=>frozen_of_row w b o _ _ h⟩
theorem fG.upd {F:Nat->Prop} (h:fG b t x y z w)(hu:Upd w w' F)(hF:¬F b):fG b t x y z w':=(hu.block b h.lt hF).trans h
theorem fG.low (h:fG b t x y z w)(hb:Below w.heap.size w w'):fG b t x y z w':=(hb.block b h.lt).trans h
theorem fG.set (h:fG b t x y z w)(u v q:Value):fG b t u v q (((w.setCell ⟨b,0,none⟩ u).setCell ⟨b,1,none⟩ v).setCell ⟨b,2,none⟩ q)/\Upd w (((w.setCell ⟨b,0,none⟩ u).setCell ⟨b,1,none⟩ v).setCell ⟨b,2,none⟩ q) (λk=>k=b):=by
 have h1:(w.setCell ⟨b,0,none⟩ u).heap[b]? =some (.cells #[u,y,z] t (0,0)):=by simpa using heap_setCell_same w b 0 _ _ u h
 have h2:((w.setCell ⟨b,0,none⟩ u).setCell ⟨b,1,none⟩ v).heap[b]? =some (.cells #[u,v,z] t (0,0)):=by simpa using heap_setCell_same _ b 1 _ _ v h1
 have h3:(((w.setCell ⟨b,0,none⟩ u).setCell ⟨b,1,none⟩ v).setCell ⟨b,2,none⟩ q).heap[b]? =some (.cells #[u,v,q] t (0,0)):=by simpa using heap_setCell_same _ b 2 _ _ q h2
 exact⟨h3,(((Upd.refl w (λk=>k=b)).setCell _ _ (.inl rfl)).setCell _ _ (.inl rfl)).setCell _ _ (.inl rfl)⟩
theorem fG.set01 (h:fG b t x y z w)(u v:Value):fG b t u v z ((w.setCell ⟨b,0,none⟩ u).setCell ⟨b,1,none⟩ v)/\Upd w ((w.setCell ⟨b,0,none⟩ u).setCell ⟨b,1,none⟩ v) (λk=>k=b):=by
 have h1:(w.setCell ⟨b,0,none⟩ u).heap[b]? =some (.cells #[u,y,z] t (0,0)):=by simpa using heap_setCell_same w b 0 _ _ u h
 have h2:((w.setCell ⟨b,0,none⟩ u).setCell ⟨b,1,none⟩ v).heap[b]? =some (.cells #[u,v,z] t (0,0)):=by simpa using heap_setCell_same _ b 1 _ _ v h1
 exact⟨h2,((Upd.refl w (λk=>k=b)).setCell _ _ (.inl rfl)).setCell _ _ (.inl rfl)⟩
theorem fG.set1 (h:fG b t x y z w)(v:Value):fG b t x v z (w.setCell ⟨b,1,none⟩ v)/\Upd w (w.setCell ⟨b,1,none⟩ v) (λk=>k=b):=
 ⟨by simpa [fG]using heap_setCell_same w b 1 _ _ v h,aM _⟩
end
def fV (B:Nat)(X:Nat->Prop)(bj gm gk:Nat)(s:JS)(rep d:Nat->Nat)(N:Nat)(Kn:KnF)(vt va vp:Value)(w:World):Prop:=
 B<=gk/\¬X gk/\(∀b,X b->B<=b)/\bK w gk cE (λx=>(Kn x).map nS)/\∃Ps',JR B (λb=>b=gk\/X b) bj gm ⟨s.T,s.As,Ps',s.V⟩ vt va vp w/\Forest Ps' rep d/\Ps'.length=N
def pB (bj gm gk:Nat)(vt va vp:Value)(b:Nat):Prop:=JF bj gm vt va vp b\/b=gk
section
variable {B bj gm gk:Nat} {X X':Nat->Prop} {s:JS} {rep d:Nat->Nat} {N:Nat} {Kn:KnF} {vt va vp:Value} {w w':World}
theorem fV.low (h:fV B X bj gm gk s rep d N Kn vt va vp w)(hb:Below w.heap.size w w'):fV B X bj gm gk s rep d N Kn vt va vp w':=by
 obtain⟨h0,hx,hX,h1,Ps,h2,h3⟩:=h;exact⟨h0,hx,hX,h1.low hb,Ps,h2.low hb,h3⟩
theorem fV.lt (h:fV B X bj gm gk s rep d N Kn vt va vp w):∀b,pB bj gm gk vt va vp b->b<w.heap.size/\B<=b:=by
 obtain⟨h0,hx,hX,h1,Ps,h2,h3⟩:=h;rintro b (e | e)
 . exact⟨(h2.own b e).2,(h2.own b e).1⟩
 exact e ▸ ⟨h1.lt,h0⟩
theorem fV.nX (h:fV B X bj gm gk s rep d N Kn vt va vp w) {b:Nat} (hb:X b):¬pB bj gm gk vt va vp b:=by
 obtain⟨h0,hx,hX,h1,Ps,h2,h3⟩:=h;rintro(e | e)
 . exact(h2.hX b (.inr hb)).1 e
 exact hx (e ▸ hb)
theorem fV.upd {F:Nat->Prop} (h:fV B X bj gm gk s rep d N Kn vt va vp w)(hu:Upd w w' F)(hF:∀b,F b->X b\/w.heap.size<=b)(hX':∀b,X' b->X b\/(w.heap.size<=b/\b<w'.heap.size)):fV B X' bj gm gk s rep d N Kn vt va vp w':=by
 have hlt:=h.lt;obtain⟨h0,hx,hX,h1,Ps,h2,h3⟩:=h;have hgl:=h1.lt;have hbl:=(h2.own bj (.inl rfl)).2;have hBl:=h2.hB;refine⟨h0,λe=>?_,λb e=>?_,h1.upd hu (λe=>?_),Ps,h2.updX hu (λb e=>⟨?_,(hF b e).imp .inr id⟩) (λb e=>?_),h3⟩
 . rcases hX' gk e with e | e
   . exact hx e
   omega
 . rcases hX' b e with e | e
   . exact hX b e
   omega
 . rcases hF gk e with e | e
   . exact hx e
   omega
 . rcases hF b e with e | e
   . exact hX b e
   omega
 rcases e with e | e
 . exact .inl (.inl e)
 exact(hX' b e).imp .inr id
theorem fV.known (h:fV B X bj gm gk s rep d N Kn vt va vp w) {m:Nat} (v:Option (Nat × Nat))(hm:bK w' gk cE (λy=>if y=(m:Int)then some (nS v)else(Kn y).map nS))(hu:Upd w w' (λb=>b=gk)):
 fV B X bj gm gk s rep d N (λy=>if y=(m:Int)then some v else Kn y) vt va vp w':=by
 obtain⟨h0,hx,hX,h1,Ps,h2,h3⟩:=h;refine⟨h0,hx,hX,hm.congr λx=>?_,Ps,h2.updX hu (λb e=>⟨e ▸ h0,.inl (.inl e)⟩) (λb e=>.inl e),h3⟩;by_cases hx:x=(m:Int)
 . simp[hx]
 simp[hx]
end
end Go.Proofs.Ytiaoabfndnidiaa