/-
 Part 2 of the proof over the checker:walks and plain laws.
-/
import Derived.Test.YtiaoabfndnidiaaMA
import Derived.Deep.Upon
set_option maxRecDepth 100000
set_option maxHeartbeats 8000000
set_option linter.unusedSimpArgs false
set_option linter.unusedVariables false
namespace Go.Proofs.Ytiaoabfndnidiaa
open Go.RowKit
structure Nm where
 there:Int->Option Int
 back:Int->Option Int
def Nm.bind (n:Nm)(f g:Int):Nm:=⟨λy=>if y=f then some g else n.there y,λy=>if y=g then some f else n.back y⟩
def Nm.fine (n:Nm)(f g:Int):Bool:=match n.there f,n.back g with
 | none,none=>true
 | some x,some y=>decide (x=g)&&decide (y=f)
 | _,_=>false
mutual
def dT:Nm->Tm->Tm->Bool × Nm
 | n,.mk f xs,.mk g ys=>
  if f<0/\g<0 then
   (if n.fine f g=true then(if xs.length=ys.length then iS (n.bind f g) xs ys else(false,n.bind f g))else(false,n))
  else if f=g then(if xs.length=ys.length then iS n xs ys else(false,n))else(false,n)
def iS:Nm->List Tm->List Tm->Bool × Nm
 | n,x::xs,y::ys=>if (dT n x y).1=true then iS (dT n x y).2 xs ys else(false,(dT n x y).2)
 | n,_,_=>(true,n)
end
theorem xX:∀{n:Nm} {xs ys:List Tm},xs.length=ys.length->eI dT n xs ys=iS n xs ys
 | n,[],[],_=>by simp[eI,iS]
 | n,x::xs,y::ys,h=>by
  rw[eI,iS];rw[xX (n:=(dT n x y).2) (xs:=xs) (ys:=ys) (by simpa using h)]
 | n,[],_::_,h=>by simp at h
 | n,_::_,[],h=>by simp at h
theorem oM (n:Nm)(xs ys:List Tm):cM dT n xs ys=if xs.length=ys.length then iS n xs ys else(false,n):=by
 unfold cM;by_cases h:xs.length=ys.length
 . rw[if_pos h,if_pos h,xX h]
 rw[if_neg h,if_neg h]
def opV (f:Int->Option Int)(x:Int):Option Value:=(f x).map cE
theorem pH (f:Int->Option Int)(a b:Int):(λy=>if y=a then some (.int .i64 b)else opV f y)=opV (λy=>if y=a then some b else f y):=by
 funext y
 unfold opV;by_cases h:y=a
 . simp[h,cE]
 simp[h]
structure NmI (gt gb:Nat)(n:Nm)(w:World):Prop where
 there:bK w gt cE (opV n.there)
 back:bK w gb cE (opV n.back)
def NmF (gt gb:Nat)(_:World)(k:Nat):Prop:=k=gt\/k=gb
theorem NmI.ok {B gt gb:Nat} (h1:B<=gt)(h2:B<=gb):StF B (NmF gt gb) (NmI gt gb) where
 low s w w' h hb:=⟨⟨h.there.low hb,h.back.low hb⟩,λ_ h=>h⟩
 lt s w k h hk:=by rcases hk with rfl | rfl;exact h.there.lt;exact h.back.lt
 ge _ _ k _ hk:=by rcases hk with rfl | rfl;exact h1;exact h2
theorem NmI.low {gt gb:Nat} {n:Nm} {w w':World} (h:NmI gt gb n w)(hb:Below w.heap.size w w'):NmI gt gb n w':=⟨h.there.low hb,h.back.low hb⟩
theorem jM {σ:Type} (B:Nat)(F:World->Nat->Prop)(I:σ->World->Prop)(hF:StF B F I)(bx:Array Value)(p:σ->Tm->Tm->Bool × σ)(xs ys:List Tm)(vx vy:Value)(s:σ)(w:World)
 (hx:Rd w B (.sl 2 (aH xs)) vx) (hy:Rd w B (.sl 2 (aH ys)) vy) (hB:B<=w.heap.size) (hs:I s w)
 (hclo:∀k (hk:k<xs.length) (hk':k<ys.length) s1 w1 e1 e2,w.heap.size<=w1.heap.size->I s1 w1->TmV w1 B xs[k] e1->TmV w1 B ys[k] e2->Calls Try.prog 83 (#[e1,e2]++bx) w1 (StB F I (p s1 xs[k] ys[k]) w1)):
 Calls Try.prog 82 #[vx,vy,.func (.func 83) #[] bx] w (StB F I (cM p s xs ys) w):=by
 obtain⟨Ax,cx,rfl,hcx,hnx,hmx⟩:=hx.tm_form;obtain⟨Ay,cy,rfl,hcy,hny,hmy⟩:=hy.tm_form;have HF:=Lh hF;have HX:=Lh hx;have HY:=Lh hy;have HS:=Lh hs;have Hclo:=Lh hclo;clear hF hx hy hs hclo;by_cases hl:xs.length=ys.length
 . have he:cM p s xs ys=eI p s xs ys:=by unfold cM;rw[if_pos hl]
   obtain⟨r,hr⟩:∃r,eI p s xs ys=r:=⟨_,rfl⟩;rw[he,hr];have HR:=Lh hr;clear hr;have q:(((xs.length:Nat):Int) !=((ys.length:Nat):Int))=false:=by rw[hl];simp
   have Hl:=Lh hl;clear he hl;go_enter Try.func82,Try.ntmps82;go_wp2_with fail;go_loopw [17] (λi wr=>∃(k:Nat) (s1:σ),i=.int .i64 k/\k<=xs.length/\r=eI p s1 (xs.drop k) (ys.drop k)/\Stp F I s1 w wr) (λi _=>xs.length-(intOf i).toNat)
   case atStart=>exact⟨0,s,rfl,Nat.zero_le _,HR.out.symm,Stp.refl HS.out⟩
   obtain⟨k,s1,rfl,hk,hgo,hst⟩:=hrel;have hzr:=hst.upd.size;have Hgo:=Lh hgo;have Hst:=Lh hst;clear hgo hst;by_cases hlt:k<xs.length
   . have hlt2:k<ys.length:=(by have:=Hl.out;omega);have hat:=pF (p:=p) (s:=s1) hlt hlt2;obtain⟨ab1,off1,f1,zs1,A1,c1,rfl,hxk,hb1,k0,k1,hr1⟩:=(Hst.out.rd HF.out HS.out HX.out hB).tm_at hlt;obtain⟨ab2,off2,f2,zs2,A2,c2,rfl,hyk,hb2,l0,l1,hr2⟩:=(Hst.out.rd HF.out HS.out HY.out hB).tm_at hlt2;have hcl:∀w1,Below wr.heap.size wr w1->Calls Try.prog 83 (#[.agg #[.int .i64 f1,.slice A1 zs1.length c1],.agg #[.int .i64 f2,.slice A2 zs2.length c2]]++bx) w1 (StB F I (p s1 xs[k] ys[k]) w1):=by
      intro w1 hb;refine Hclo.out k hlt hlt2 s1 w1 _ _ (Nat.le_trans hzr hb.size) (HF.out.low _ _ _ Hst.out.st hb).1 ?_ ?_
      . rw[hxk];exact⟨A1,c1,rfl,hr1.low hb (by omega)⟩
      rw[hyk];exact⟨A2,c2,rfl,hr2.low hb (by omega)⟩
     have Hcl:=Lh hcl;have Hat:=Lh hat;have hq1:ab1<wr.heap.size:=(by omega);have hq2:ab2<wr.heap.size:=(by omega);clear hcl hxk hyk hr1 hr2 hat;obtain⟨⟨b,s2⟩,hp⟩:∃r,p s1 xs[k] ys[k]=r:=⟨_,rfl⟩;rw[hp]at Hcl Hat;clear hp;cases b with
     | true=>
      go_wp2_with (
       go_at_call 83
       refine(Hcl.out _ ((aD wr _).trans ((aD _ _).mono (by simp)))).mono ?_;rintro e w1 ⟨rfl,hst2⟩;have Hst2:=Lh ((HF.out.step Hst.out.st ((aD wr _).trans ((aD _ _).mono (by simp)))).trans hst2);clear hst2)
      go_roundw
      case rel=>exact⟨k+1,s2,by go_num,by omega,by rw[Hgo.out,Hat.out];simp,Hst.out.trans Hst2.out⟩
      case measure=>simp[intOf];omega
     | false=>
      go_wp2_with (
       go_at_call 83
       refine(Hcl.out _ ((aD wr _).trans ((aD _ _).mono (by simp)))).mono ?_;rintro e w1 ⟨rfl,hst2⟩;have Hst2:=Lh ((HF.out.step Hst.out.st ((aD wr _).trans ((aD _ _).mono (by simp)))).trans hst2);clear hst2)
      go_ret;obtain rfl:r=(false,s2):=by rw[Hgo.out,Hat.out,if_neg (by decide)]
      exact⟨rfl,Hst.out.trans Hst2.out⟩
   have hend:=mK (p:=p) (s:=s1) (xs:=xs) (ys:=ys) (k:=k) (by omega) (by have:=Hl.out;omega);have hres:r=(true,s1):=by rw[Hgo.out,hend]
   have Hres:=Lh hres;clear hend hres;go_wp2_with fail;go_ret;rw[Hres.out];exact⟨rfl,Hst.out⟩
 have he:cM p s xs ys=(false,s):=by unfold cM;rw[if_neg hl]
 rw[he];have q:(((xs.length:Nat):Int) !=((ys.length:Nat):Int))=true:=by rw[bne_iff_ne];omega
 clear he hl;go_enter Try.func82,Try.ntmps82;go_wp2_with fail;go_ret;exact⟨rfl,Stp.refl HS.out⟩
def aN5 (gt gb:Nat)(n:Nm)(f g:Int)(W:World)(b1 b2:Bool)(w:World):Prop:=
 bK w gt cE (opV (if b1 then(n.bind f g).there else n.there))/\bK w gb cE (opV (if b2 then(n.bind f g).back else n.back))/\Upd W w (λk=>k=gt\/k=gb)
def eP (gt gb bn:Nat)(n:Nm)(w:World):Prop:=NmI gt gb n w/\w.heap[bn]? =some (.cells #[.map (some gt),.map (some gb)] 96 (0,0))
theorem eP.ok {B gt gb bn:Nat} (h1:B<=gt)(h2:B<=gb):StF B (NmF gt gb) (eP gt gb bn) where
 low _ _ _ h hb:=⟨⟨h.1.low hb,(hb.block _ (eA h.2)).trans h.2⟩,λ_ h=>h⟩
 lt s w k h hk:=(NmI.ok h1 h2).lt s w k h.1 hk
 ge s w k h hk:=(NmI.ok h1 h2).ge s w k h.1 hk
theorem eP.ne {gt gb bn:Nat} {n:Nm} {w:World} (h:eP gt gb bn n w):¬NmF gt gb w bn:=by
 rintro(rfl | rfl)
 . obtain⟨es,c,kv,hg,_⟩:=h.1.there;rw[h.2]at hg;injection hg with hg
   cases hg
 obtain⟨es,c,kv,hg,_⟩:=h.1.back;rw[h.2]at hg;injection hg with hg
 cases hg
theorem eP.stp {gt gb bn:Nat} {n n':Nm} {w w':World} (h:eP gt gb bn n w)(hs:Stp (NmF gt gb) (NmI gt gb) n' w w'):Stp (NmF gt gb) (eP gt gb bn) n' w w':=
 ⟨⟨hs.st,(hs.keep (eA h.2) h.ne).1.trans h.2⟩,hs.upd,hs.grow⟩
theorem rU (gt gb bn B:Nat)(hgt:B<=gt)(hgb:B<=gb)(x y:Tm)(n:Nm)(w1:World)(e1 e2:Value)(hs:eP gt gb bn n w1)(h1:TmV w1 B x e1)(h2:TmV w1 B y e2)(hB:B<=w1.heap.size)
 (ih:∀(vx vy:Value) (w:World),Rd w B (.sl 2 (aH x.args)) vx->Rd w B (.sl 2 (aH y.args)) vy->B<=w.heap.size->NmI gt gb n w->
  Calls Try.prog 54 #[.agg #[.map (some gt),.map (some gb)],.agg #[.int .i64 x.fn,vx],.agg #[.int .i64 y.fn,vy]] w (StB (NmF gt gb) (NmI gt gb) (dT n (.mk x.fn x.args) (.mk y.fn y.args)) w)):
 Calls Try.prog 83 (#[e1,e2]++ #[.pointer (some ⟨bn,0,none⟩)]) w1 (StB (NmF gt gb) (eP gt gb bn) (dT n x y) w1):=by
 obtain⟨A1,c1,rfl,hr1⟩:=h1;obtain⟨A2,c2,rfl,hr2⟩:=h2;rw[fY,fY]at ih;obtain⟨r,hr⟩:∃r,dT n x y=r:=⟨_,rfl⟩;rw[hr]at ih ⊢;generalize x.fn=f1 at*;generalize x.args=zs1 at*;generalize y.fn=f2 at*;generalize y.args=zs2 at*;have hbn:=λo=>cell_of_row w1 bn o _ _ _ hs.2
 have hln:=eA hs.2;have Ih:=Lh ih;have R1:=Lh hr1;have R2:=Lh hr2;have HS:=Lh hs;clear ih hr1 hr2 hs hr;go_enter Try.func83,Try.ntmps83;go_upto_region 1 with fail
 obtain⟨hx1,hx2,hB3,hz3⟩:=aO w1 (.cells #[.int .i64 f1,.slice A1 zs1.length c1] 51) (.cells #[.int .i64 f2,.slice A2 zs2.length c2] 51);generalize (w1.alloc (.cells #[.int .i64 f1,.slice A1 zs1.length c1] 51)).alloc (.cells #[.int .i64 f2,.slice A2 zs2.length c2] 51)=w3 at hx1 hx2 hB3 hz3 ⊢;have hbn3:=λo=>(hB3.cell (p:=⟨bn,o,none⟩) hln).trans (hbn o)
 have k1:=λo=>cell_of_row w3 w1.heap.size o _ _ _ hx1
 have k2:=λo=>cell_of_row w3 (w1.heap.size+1) o _ _ _ hx2
 have HB3:=Lh hB3;clear hx1 hx2 hB3 hbn;go_wp2_with (
  go_at_call 54
  refine(Ih.out _ _ _ (R1.out.low HB3.out hB) (R2.out.low HB3.out hB) (by omega) (HS.out.1.low HB3.out)).mono ?_;rintro e w2 ⟨rfl,hst⟩)
 go_ret;refine⟨rfl,?_⟩;exact HS.out.stp (((NmI.ok hgt hgb).step HS.out.1 HB3.out).trans hst)
theorem xW {gt gb:Nat} {n:Nm} {f g:Int} {W w:World} (h:aN5 gt gb n f g W true true w):Stp (NmF gt gb) (NmI gt gb) (n.bind f g) W w:=
 ⟨⟨h.1,h.2.1⟩,h.2.2,λ_ hk=>.inl hk⟩
theorem kG (d gt gb:Nat)(B:Nat)(hgt:B<=gt)(hgb:B<=gb)(hne:gt≠gb):∀(f g:Int) (xs ys:List Tm) (vx vy:Value) (n:Nm) (w:World),aI xs<d->Rd w B (.sl 2 (aH xs)) vx->Rd w B (.sl 2 (aH ys)) vy->B<=w.heap.size->NmI gt gb n w->
 Calls Try.prog 54 #[.agg #[.map (some gt),.map (some gb)],.agg #[.int .i64 f,vx],.agg #[.int .i64 g,vy]] w (StB (NmF gt gb) (NmI gt gb) (dT n (.mk f xs) (.mk g ys)) w):=by
 have hF:=NmI.ok hgt hgb;have HF:=Lh hF;clear hF;induction d with
 | zero=>intro f g xs ys vx vy n w h;omega
 | succ d ih=>
 intro f g xs ys vx vy n w hd hx hy hB hs;obtain⟨Ax,cx,rfl,hcx,hnx,hmx⟩:=hx.tm_form;obtain⟨Ay,cy,rfl,hcy,hny,hmy⟩:=hy.tm_form;obtain⟨r,hr⟩:∃r,dT n (.mk f xs) (.mk g ys)=r:=⟨_,rfl⟩;rw[hr];have HX:=Lh hx;have HY:=Lh hy;have HS:=Lh hs;have HR:=Lh hr;have Hih:=Lh ih;clear hx hy hs hr ih;by_cases hneg:f<0/\g<0
 . obtain⟨hf,hg⟩:=hneg;go_enter Try.func54,Try.ntmps54;go_upto_region 1 with fail
   obtain⟨hx1,hx2,hx3,hB3,hz3⟩:=fW w (.cells #[.map (some gt),.map (some gb)] 96) (.cells #[.int .i64 f,.slice Ax xs.length cx] 87) (.cells #[.int .i64 g,.slice Ay ys.length cy] 87);generalize ((w.alloc (.cells #[.map (some gt),.map (some gb)] 96)).alloc (.cells #[.int .i64 f,.slice Ax xs.length cx] 87)).alloc (.cells #[.int .i64 g,.slice Ay ys.length cy] 87)=w3 at hx1 hx2 hx3 hB3 hz3 ⊢;have Hx1:=Lh hx1;have Hx2:=Lh hx2;have Hx3:=Lh hx3;have c1:=λo=>cell_of_row w3 w.heap.size o _ _ _ hx1
   have c2:=λo=>cell_of_row w3 (w.heap.size+1) o _ _ _ hx2
   have c3:=λo=>cell_of_row w3 (w.heap.size+1+1) o _ _ _ hx3
   have HB3:=Lh hB3;have hs3:=HF.out.step HS.out hB3;have HS3:=Lh hs3;clear hx1 hx2 hx3 hB3 hs3;have hlk1:=bK.lookup_ok HS3.out.st.there fT Try.underlying94 (aK2 _) f;have hlk2:=bK.lookup_ok HS3.out.st.back fT Try.underlying94 (aK2 _) g;simp only[cE]at hlk1 hlk2;obtain⟨xv,hxv⟩:∃xv,n.there f=xv:=⟨_,rfl⟩;obtain⟨yv,hyv⟩:∃yv,n.back g=yv:=⟨_,rfl⟩;simp only[opV,hxv]at hlk1;simp only[opV,hyv]at hlk2;have hgtl:=HS3.out.st.there.lt;have hgbl:=HS3.out.st.back.lt;have hgt0:=HS.out.there.lt;have hgb0:=HS.out.back.lt;rcases xv with _ | x
   . rcases yv with _ | y
     . have hfine:n.fine f g=true:=(by unfold Nm.fine;rw[hxv,hyv]);simp only[Option.map,Option.getD,Option.isSome]at hlk1 hlk2;clear hxv hyv;go_upto_region 6 with fail
       refine eO (vals:=λk=>match k with | 0=>(.pointer (some ⟨w.heap.size,0,none⟩):Value) | 1=>(.map (some gt):Value) | 2=>(.pointer (some ⟨w.heap.size+1,0,none⟩):Value) | 3=>(.int .i64 f:Value) | 4=>(.pointer (some ⟨w.heap.size,1,none⟩):Value) | 5=>(.map (some gb):Value) | 6=>(.pointer (some ⟨w.heap.size+1+1,0,none⟩):Value) | 7=>(.int .i64 g:Value) | 8=>(.pointer (some ⟨w.heap.size+1+1,0,none⟩):Value) | 9=>(.int .i64 g:Value) | 10=>(.pointer (some ⟨w.heap.size+1,0,none⟩):Value) | 11=>(.int .i64 f:Value) | 12=>(undef:Value) | 13=>(undef:Value) | _=>undef) (D:=λk=>match k with | 0=>some 53 | 1=>some 54 | 2=>some 55 | 3=>some 56 | 4=>some 57 | 5=>some 58 | 6=>some 59 | 7=>some 60 | 8=>some 61 | 9=>some 62 | 10=>some 63 | 11=>some 64 | _=>none) (J:=λaA w'=>aN5 gt gb n f g w3 (aA.getD 12 false) (aA.getD 13 false) w') (by kernel_rfl) ?hs ?hd ?h0 ?step ?fin
       case hs=>
        intro i o ho;have hi:i<14:=(Array.getElem?_eq_some_iff.1 ho).1;rcases wW hi with rfl | rfl | rfl | rfl | rfl | rfl | rfl | rfl | rfl | rfl | rfl | rfl | rfl | rfl
        all_goals obtain rfl:=Option.some.inj (show some _=some o from ho)
        all_goals exact⟨by simp[Region.binds],rfl,λs hs=>by first | (cases hs;done) | (obtain rfl:=Option.some.inj hs;show _<76;decide)⟩
       case hd=>
        intro k k' s hk hk' h h';have hk:k<14:=hk;have hk':k'<14:=hk';refine dL (D:=[some 53,some 54,some 55,some 56,some 57,some 58,some 59,some 60,some 61,some 62,some 63,some 64,none,none]) (by decide) (k:=k) (k':=k') (s:=s) ?_ ?_
        . rcases wW hk with rfl | rfl | rfl | rfl | rfl | rfl | rfl | rfl | rfl | rfl | rfl | rfl | rfl | rfl
          all_goals exact congrArg some h
        rcases wW hk' with rfl | rfl | rfl | rfl | rfl | rfl | rfl | rfl | rfl | rfl | rfl | rfl | rfl | rfl
        all_goals exact congrArg some h'
       case h0=>
        exact⟨HS3.out.st.there,HS3.out.st.back,(Upd.refl w3 _).drewN 1⟩
       case step=>
        intro aA a w' i o hz hI hJ ho hl hdep;have hz:aA.size=14:=hz;have hi:i<14:=(Array.getElem?_eq_some_iff.1 ho).1;have k10:=(World.cell?_of_block (a:=⟨w.heap.size,0,none⟩) (hJ.2.2.block w.heap.size (by omega) (by omega))).trans (c1 0);have k11:=(World.cell?_of_block (a:=⟨w.heap.size,1,none⟩) (hJ.2.2.block w.heap.size (by omega) (by omega))).trans (c1 1);have k20:=(World.cell?_of_block (a:=⟨w.heap.size+1,0,none⟩) (hJ.2.2.block (w.heap.size+1) (by omega) (by omega))).trans (c2 0);have k30:=(World.cell?_of_block (a:=⟨w.heap.size+1+1,0,none⟩) (hJ.2.2.block (w.heap.size+1+1) (by omega) (by omega))).trans (c3 0);simp only[List.getElem?_toArray,List.getElem?_cons_zero,List.getElem?_cons_succ]at k10 k11 k20 k30;rcases wW hi with rfl | rfl | rfl | rfl | rfl | rfl | rfl | rfl | rfl | rfl | rfl | rfl | rfl | rfl
        all_goals obtain rfl:=Option.some.inj (show some _=some o from ho)
        . have e3:(a.tmps[3]?).getD undef=(.pointer (some ⟨w.heap.size,0,none⟩):Value):=gD (hI.fix 3 (by decide));have hK:=hJ;rw[<-aB (l:=aA) (i:=0) (k:=12) (by decide)]at hK;rw[<-aB (l:=aA) (i:=0) (k:=13) (by decide)]at hK;exact aF ho rfl (aE (v:=.pointer (some ⟨w.heap.size,0,none⟩)) (w':=w') (by simp[execOp,e3,go_sem]) ⟨rfl,hK⟩)
        . have e53:(a.tmps[53]?).getD undef=(.pointer (some ⟨w.heap.size,0,none⟩):Value):=gD (hI.done 0 53 (by simp) rfl (hdep ⟨0,.data⟩ (by simp) rfl));have hK:=hJ;rw[<-aB (l:=aA) (i:=1) (k:=12) (by decide)]at hK;rw[<-aB (l:=aA) (i:=1) (k:=13) (by decide)]at hK;exact aF ho rfl (aE (v:=.map (some gt)) (w':=w') (by simp[execOp,e53,k10,go_sem]) ⟨rfl,hK⟩)
        . have e4:(a.tmps[4]?).getD undef=(.pointer (some ⟨w.heap.size+1,0,none⟩):Value):=gD (hI.fix 4 (by decide));have hK:=hJ;rw[<-aB (l:=aA) (i:=2) (k:=12) (by decide)]at hK;rw[<-aB (l:=aA) (i:=2) (k:=13) (by decide)]at hK;exact aF ho rfl (aE (v:=.pointer (some ⟨w.heap.size+1,0,none⟩)) (w':=w') (by simp[execOp,e4,go_sem]) ⟨rfl,hK⟩)
        . have e55:(a.tmps[55]?).getD undef=(.pointer (some ⟨w.heap.size+1,0,none⟩):Value):=gD (hI.done 2 55 (by simp) rfl (hdep ⟨2,.data⟩ (by simp) rfl));have hK:=hJ;rw[<-aB (l:=aA) (i:=3) (k:=12) (by decide)]at hK;rw[<-aB (l:=aA) (i:=3) (k:=13) (by decide)]at hK;exact aF ho rfl (aE (v:=.int .i64 f) (w':=w') (by simp[execOp,e55,k20,go_sem]) ⟨rfl,hK⟩)
        . have e3:(a.tmps[3]?).getD undef=(.pointer (some ⟨w.heap.size,0,none⟩):Value):=gD (hI.fix 3 (by decide));have hK:=hJ;rw[<-aB (l:=aA) (i:=4) (k:=12) (by decide)]at hK;rw[<-aB (l:=aA) (i:=4) (k:=13) (by decide)]at hK;exact aF ho rfl (aE (v:=.pointer (some ⟨w.heap.size,1,none⟩)) (w':=w') (by simp[execOp,e3,go_sem]) ⟨rfl,hK⟩)
        . have e57:(a.tmps[57]?).getD undef=(.pointer (some ⟨w.heap.size,1,none⟩):Value):=gD (hI.done 4 57 (by simp) rfl (hdep ⟨4,.data⟩ (by simp) rfl));have hK:=hJ;rw[<-aB (l:=aA) (i:=5) (k:=12) (by decide)]at hK;rw[<-aB (l:=aA) (i:=5) (k:=13) (by decide)]at hK;exact aF ho rfl (aE (v:=.map (some gb)) (w':=w') (by simp[execOp,e57,k11,go_sem]) ⟨rfl,hK⟩)
        . have e5:(a.tmps[5]?).getD undef=(.pointer (some ⟨w.heap.size+1+1,0,none⟩):Value):=gD (hI.fix 5 (by decide));have hK:=hJ;rw[<-aB (l:=aA) (i:=6) (k:=12) (by decide)]at hK;rw[<-aB (l:=aA) (i:=6) (k:=13) (by decide)]at hK;exact aF ho rfl (aE (v:=.pointer (some ⟨w.heap.size+1+1,0,none⟩)) (w':=w') (by simp[execOp,e5,go_sem]) ⟨rfl,hK⟩)
        . have e59:(a.tmps[59]?).getD undef=(.pointer (some ⟨w.heap.size+1+1,0,none⟩):Value):=gD (hI.done 6 59 (by simp) rfl (hdep ⟨6,.data⟩ (by simp) rfl));have hK:=hJ;rw[<-aB (l:=aA) (i:=7) (k:=12) (by decide)]at hK;rw[<-aB (l:=aA) (i:=7) (k:=13) (by decide)]at hK;exact aF ho rfl (aE (v:=.int .i64 g) (w':=w') (by simp[execOp,e59,k30,go_sem]) ⟨rfl,hK⟩)
        . have e5:(a.tmps[5]?).getD undef=(.pointer (some ⟨w.heap.size+1+1,0,none⟩):Value):=gD (hI.fix 5 (by decide));have hK:=hJ;rw[<-aB (l:=aA) (i:=8) (k:=12) (by decide)]at hK;rw[<-aB (l:=aA) (i:=8) (k:=13) (by decide)]at hK;exact aF ho rfl (aE (v:=.pointer (some ⟨w.heap.size+1+1,0,none⟩)) (w':=w') (by simp[execOp,e5,go_sem]) ⟨rfl,hK⟩)
        . have e61:(a.tmps[61]?).getD undef=(.pointer (some ⟨w.heap.size+1+1,0,none⟩):Value):=gD (hI.done 8 61 (by simp) rfl (hdep ⟨8,.data⟩ (by simp) rfl));have hK:=hJ;rw[<-aB (l:=aA) (i:=9) (k:=12) (by decide)]at hK;rw[<-aB (l:=aA) (i:=9) (k:=13) (by decide)]at hK;exact aF ho rfl (aE (v:=.int .i64 g) (w':=w') (by simp[execOp,e61,k30,go_sem]) ⟨rfl,hK⟩)
        . have e4:(a.tmps[4]?).getD undef=(.pointer (some ⟨w.heap.size+1,0,none⟩):Value):=gD (hI.fix 4 (by decide));have hK:=hJ;rw[<-aB (l:=aA) (i:=10) (k:=12) (by decide)]at hK;rw[<-aB (l:=aA) (i:=10) (k:=13) (by decide)]at hK;exact aF ho rfl (aE (v:=.pointer (some ⟨w.heap.size+1,0,none⟩)) (w':=w') (by simp[execOp,e4,go_sem]) ⟨rfl,hK⟩)
        . have e63:(a.tmps[63]?).getD undef=(.pointer (some ⟨w.heap.size+1,0,none⟩):Value):=gD (hI.done 10 63 (by simp) rfl (hdep ⟨10,.data⟩ (by simp) rfl));have hK:=hJ;rw[<-aB (l:=aA) (i:=11) (k:=12) (by decide)]at hK;rw[<-aB (l:=aA) (i:=11) (k:=13) (by decide)]at hK;exact aF ho rfl (aE (v:=.int .i64 f) (w':=w') (by simp[execOp,e63,k20,go_sem]) ⟨rfl,hK⟩)
        . have e540:a.tmps.getD 54 undef=(.map (some gt):Value):=hI.done 1 54 (by simp) rfl (hdep ⟨1,.data⟩ (by simp) rfl);have e54:=gD e540;have e560:a.tmps.getD 56 undef=(.int .i64 f:Value):=hI.done 3 56 (by simp) rfl (hdep ⟨3,.data⟩ (by simp) rfl);have e56:=gD e560;have e620:a.tmps.getD 62 undef=(.int .i64 g:Value):=hI.done 9 62 (by simp) rfl (hdep ⟨9,.data⟩ (by simp) rfl);have e62:=gD e620;obtain⟨hj1,hj2,hj3⟩:=hJ;refine aF ho rfl (fD (g:=gt) (.tmp 54) (.tmp 56) (.tmp 62) rfl fT Try.underlying94 e540 f e560 (.int .i64 g) e620 hj1 ?_);intro w5 hm5 hu5;refine⟨rfl,?_,?_,?_⟩
          . rw[aJ (by omega)];rw[hl,pH]at hm5;exact hm5
          . rw[aB (by decide)];exact hj2.upd hu5 (λe=>hne e.symm)
          exact cC hj3 (hu5.more λi hi=>.inl (.inl hi))
        have e580:a.tmps.getD 58 undef=(.map (some gb):Value):=hI.done 5 58 (by simp) rfl (hdep ⟨5,.data⟩ (by simp) rfl);have e58:=gD e580;have e600:a.tmps.getD 60 undef=(.int .i64 g:Value):=hI.done 7 60 (by simp) rfl (hdep ⟨7,.data⟩ (by simp) rfl);have e60:=gD e600;have e640:a.tmps.getD 64 undef=(.int .i64 f:Value):=hI.done 11 64 (by simp) rfl (hdep ⟨11,.data⟩ (by simp) rfl);have e64:=gD e640;obtain⟨hj1,hj2,hj3⟩:=hJ;refine aF ho rfl (fD (g:=gb) (.tmp 58) (.tmp 60) (.tmp 64) rfl fT Try.underlying94 e580 g e600 (.int .i64 f) e640 hj2 ?_);intro w5 hm5 hu5;refine⟨rfl,?_,?_,?_⟩
        . rw[aB (by decide)];exact hj1.upd hu5 (λe=>hne e)
        . rw[aJ (by omega)];rw[hl,pH]at hm5;exact hm5
        exact cC hj3 (hu5.more λi hi=>.inl (.inr hi))
       case fin=>
        intro aA wz hz hall hJ;have hz:aA.size=14:=hz;have hall:∀i,i<14->aA.getD i false=true:=hall;simp only[List.size_toArray,List.length_cons,List.length_nil,Nat.reduceAdd,bI];simp
        have h12:=hall 12 (by omega);have h13:=hall 13 (by omega);rw[h12,h13]at hJ;have hst:=xW hJ;have hI2:eP gt gb w.heap.size (n.bind f g) wz:=⟨hst.st,(hst.upd.block _ (by omega) (by rintro(h | h) <;> omega)).trans Hx1.out⟩;have d1:=λo=>cell_of_row wz w.heap.size o _ _ _ hI2.2
        have d2:=λo=>cell_of_row wz (w.heap.size+1) o _ _ _ ((hst.upd.block _ (by omega) (by rintro(h | h) <;> omega)).trans Hx2.out)
        have d3:=λo=>cell_of_row wz (w.heap.size+1+1) o _ _ _ ((hst.upd.block _ (by omega) (by rintro(h | h) <;> omega)).trans Hx3.out)
        have hzz:=hst.upd.size;have Hst:=Lh (HS3.out.trans hst);have HI2:=Lh hI2;clear c1 c2 c3 hst hI2 hJ hall h12 h13;have hr2:cM dT (n.bind f g) xs ys=r:=(by rw[oM,<-HR.out,dT];simp only[hf,hg,hfine,and_self,if_true]);have Hr2:=Lh hr2;clear hr2;go_wp2_with (
         go_at_call 82
         refine(jM B (NmF gt gb) (eP gt gb w.heap.size) (eP.ok hgt hgb) #[.pointer (some ⟨w.heap.size,0,none⟩)] dT xs ys _ _ (n.bind f g) _ (Hst.out.upd.keepRd HX.out hB (λk hk=>HF.out.ge _ _ k HS.out hk)) (Hst.out.upd.keepRd HY.out hB (λk hk=>HF.out.ge _ _ k HS.out hk)) (by omega) HI2.out ?_).mono ?_
         . intro k hk hk' s1 w1 e1 e2 hw1 hs1 ht1 ht2;refine rU gt gb w.heap.size B hgt hgb xs[k] ys[k] s1 w1 e1 e2 hs1 ht1 ht2 (by omega) λvx vy w4 r1 r2 b4 i4=>?_
           have h1:=aZ hk;have h2:=fY xs[k];rw[<-h2]at h1;simp only[aK]at h1;exact Hih.out _ _ _ _ _ _ _ _ (by omega) r1 r2 b4 i4
         rintro e w5 ⟨rfl,hst5⟩;rw[Hr2.out]at hst5;try rw[Hr2.out])
        go_ret;exact⟨rfl,Hst.out.trans ⟨hst5.st.1,hst5.upd,hst5.grow⟩⟩
     have hfine:n.fine f g=false:=(by unfold Nm.fine;rw[hxv,hyv]);simp only[Option.map,Option.getD,Option.isSome,cE]at hlk1 hlk2;clear hxv hyv;have hres:r=(false,n):=(by rw[<-HR.out,dT];simp[hf,hg,hfine]);have Hres:=Lh hres;clear hres;go_wp2_with fail;go_ret;rw[Hres.out];exact⟨rfl,HS3.out⟩
   rcases yv with _ | y
   . have hfine:n.fine f g=false:=(by unfold Nm.fine;rw[hxv,hyv]);simp only[Option.map,Option.getD,Option.isSome,cE]at hlk1 hlk2;clear hxv hyv;have hres:r=(false,n):=(by rw[<-HR.out,dT];simp[hf,hg,hfine]);have Hres:=Lh hres;clear hres;go_wp2_with fail;go_ret;rw[Hres.out];exact⟨rfl,HS3.out⟩
   simp only[Option.map,Option.getD,Option.isSome,cE]at hlk1 hlk2;by_cases hxg:x=g
   . by_cases hyf:y=f
     . have hfine:n.fine f g=true:=(by unfold Nm.fine;rw[hxv,hyv];simp[hxg,hyf]);have q1:(x !=g)=false:=(by simp[hxg]);have q2:(y !=f)=false:=(by simp[hyf]);clear hxv hyv hxg hyf;go_upto_region 6 with fail
       refine eO (vals:=λk=>match k with | 0=>(.pointer (some ⟨w.heap.size,0,none⟩):Value) | 1=>(.map (some gt):Value) | 2=>(.pointer (some ⟨w.heap.size+1,0,none⟩):Value) | 3=>(.int .i64 f:Value) | 4=>(.pointer (some ⟨w.heap.size,1,none⟩):Value) | 5=>(.map (some gb):Value) | 6=>(.pointer (some ⟨w.heap.size+1+1,0,none⟩):Value) | 7=>(.int .i64 g:Value) | 8=>(.pointer (some ⟨w.heap.size+1+1,0,none⟩):Value) | 9=>(.int .i64 g:Value) | 10=>(.pointer (some ⟨w.heap.size+1,0,none⟩):Value) | 11=>(.int .i64 f:Value) | 12=>(undef:Value) | 13=>(undef:Value) | _=>undef) (D:=λk=>match k with | 0=>some 53 | 1=>some 54 | 2=>some 55 | 3=>some 56 | 4=>some 57 | 5=>some 58 | 6=>some 59 | 7=>some 60 | 8=>some 61 | 9=>some 62 | 10=>some 63 | 11=>some 64 | _=>none) (J:=λaA w'=>aN5 gt gb n f g w3 (aA.getD 12 false) (aA.getD 13 false) w') (by kernel_rfl) ?hs ?hd ?h0 ?step ?fin
       case hs=>
        intro i o ho;have hi:i<14:=(Array.getElem?_eq_some_iff.1 ho).1;rcases wW hi with rfl | rfl | rfl | rfl | rfl | rfl | rfl | rfl | rfl | rfl | rfl | rfl | rfl | rfl
        all_goals obtain rfl:=Option.some.inj (show some _=some o from ho)
        all_goals exact⟨by simp[Region.binds],rfl,λs hs=>by first | (cases hs;done) | (obtain rfl:=Option.some.inj hs;show _<76;decide)⟩
       case hd=>
        intro k k' s hk hk' h h';have hk:k<14:=hk;have hk':k'<14:=hk';refine dL (D:=[some 53,some 54,some 55,some 56,some 57,some 58,some 59,some 60,some 61,some 62,some 63,some 64,none,none]) (by decide) (k:=k) (k':=k') (s:=s) ?_ ?_
        . rcases wW hk with rfl | rfl | rfl | rfl | rfl | rfl | rfl | rfl | rfl | rfl | rfl | rfl | rfl | rfl
          all_goals exact congrArg some h
        rcases wW hk' with rfl | rfl | rfl | rfl | rfl | rfl | rfl | rfl | rfl | rfl | rfl | rfl | rfl | rfl
        all_goals exact congrArg some h'
       case h0=>
        exact⟨HS3.out.st.there,HS3.out.st.back,(Upd.refl w3 _).drewN 1⟩
       case step=>
        intro aA a w' i o hz hI hJ ho hl hdep;have hz:aA.size=14:=hz;have hi:i<14:=(Array.getElem?_eq_some_iff.1 ho).1;have k10:=(World.cell?_of_block (a:=⟨w.heap.size,0,none⟩) (hJ.2.2.block w.heap.size (by omega) (by omega))).trans (c1 0);have k11:=(World.cell?_of_block (a:=⟨w.heap.size,1,none⟩) (hJ.2.2.block w.heap.size (by omega) (by omega))).trans (c1 1);have k20:=(World.cell?_of_block (a:=⟨w.heap.size+1,0,none⟩) (hJ.2.2.block (w.heap.size+1) (by omega) (by omega))).trans (c2 0);have k30:=(World.cell?_of_block (a:=⟨w.heap.size+1+1,0,none⟩) (hJ.2.2.block (w.heap.size+1+1) (by omega) (by omega))).trans (c3 0);simp only[List.getElem?_toArray,List.getElem?_cons_zero,List.getElem?_cons_succ]at k10 k11 k20 k30;rcases wW hi with rfl | rfl | rfl | rfl | rfl | rfl | rfl | rfl | rfl | rfl | rfl | rfl | rfl | rfl
        all_goals obtain rfl:=Option.some.inj (show some _=some o from ho)
        . have e3:(a.tmps[3]?).getD undef=(.pointer (some ⟨w.heap.size,0,none⟩):Value):=gD (hI.fix 3 (by decide));have hK:=hJ;rw[<-aB (l:=aA) (i:=0) (k:=12) (by decide)]at hK;rw[<-aB (l:=aA) (i:=0) (k:=13) (by decide)]at hK;exact aF ho rfl (aE (v:=.pointer (some ⟨w.heap.size,0,none⟩)) (w':=w') (by simp[execOp,e3,go_sem]) ⟨rfl,hK⟩)
        . have e53:(a.tmps[53]?).getD undef=(.pointer (some ⟨w.heap.size,0,none⟩):Value):=gD (hI.done 0 53 (by simp) rfl (hdep ⟨0,.data⟩ (by simp) rfl));have hK:=hJ;rw[<-aB (l:=aA) (i:=1) (k:=12) (by decide)]at hK;rw[<-aB (l:=aA) (i:=1) (k:=13) (by decide)]at hK;exact aF ho rfl (aE (v:=.map (some gt)) (w':=w') (by simp[execOp,e53,k10,go_sem]) ⟨rfl,hK⟩)
        . have e4:(a.tmps[4]?).getD undef=(.pointer (some ⟨w.heap.size+1,0,none⟩):Value):=gD (hI.fix 4 (by decide));have hK:=hJ;rw[<-aB (l:=aA) (i:=2) (k:=12) (by decide)]at hK;rw[<-aB (l:=aA) (i:=2) (k:=13) (by decide)]at hK;exact aF ho rfl (aE (v:=.pointer (some ⟨w.heap.size+1,0,none⟩)) (w':=w') (by simp[execOp,e4,go_sem]) ⟨rfl,hK⟩)
        . have e55:(a.tmps[55]?).getD undef=(.pointer (some ⟨w.heap.size+1,0,none⟩):Value):=gD (hI.done 2 55 (by simp) rfl (hdep ⟨2,.data⟩ (by simp) rfl));have hK:=hJ;rw[<-aB (l:=aA) (i:=3) (k:=12) (by decide)]at hK;rw[<-aB (l:=aA) (i:=3) (k:=13) (by decide)]at hK;exact aF ho rfl (aE (v:=.int .i64 f) (w':=w') (by simp[execOp,e55,k20,go_sem]) ⟨rfl,hK⟩)
        . have e3:(a.tmps[3]?).getD undef=(.pointer (some ⟨w.heap.size,0,none⟩):Value):=gD (hI.fix 3 (by decide));have hK:=hJ;rw[<-aB (l:=aA) (i:=4) (k:=12) (by decide)]at hK;rw[<-aB (l:=aA) (i:=4) (k:=13) (by decide)]at hK;exact aF ho rfl (aE (v:=.pointer (some ⟨w.heap.size,1,none⟩)) (w':=w') (by simp[execOp,e3,go_sem]) ⟨rfl,hK⟩)
        . have e57:(a.tmps[57]?).getD undef=(.pointer (some ⟨w.heap.size,1,none⟩):Value):=gD (hI.done 4 57 (by simp) rfl (hdep ⟨4,.data⟩ (by simp) rfl));have hK:=hJ;rw[<-aB (l:=aA) (i:=5) (k:=12) (by decide)]at hK;rw[<-aB (l:=aA) (i:=5) (k:=13) (by decide)]at hK;exact aF ho rfl (aE (v:=.map (some gb)) (w':=w') (by simp[execOp,e57,k11,go_sem]) ⟨rfl,hK⟩)
        . have e5:(a.tmps[5]?).getD undef=(.pointer (some ⟨w.heap.size+1+1,0,none⟩):Value):=gD (hI.fix 5 (by decide));have hK:=hJ;rw[<-aB (l:=aA) (i:=6) (k:=12) (by decide)]at hK;rw[<-aB (l:=aA) (i:=6) (k:=13) (by decide)]at hK;exact aF ho rfl (aE (v:=.pointer (some ⟨w.heap.size+1+1,0,none⟩)) (w':=w') (by simp[execOp,e5,go_sem]) ⟨rfl,hK⟩)
        . have e59:(a.tmps[59]?).getD undef=(.pointer (some ⟨w.heap.size+1+1,0,none⟩):Value):=gD (hI.done 6 59 (by simp) rfl (hdep ⟨6,.data⟩ (by simp) rfl));have hK:=hJ;rw[<-aB (l:=aA) (i:=7) (k:=12) (by decide)]at hK;rw[<-aB (l:=aA) (i:=7) (k:=13) (by decide)]at hK;exact aF ho rfl (aE (v:=.int .i64 g) (w':=w') (by simp[execOp,e59,k30,go_sem]) ⟨rfl,hK⟩)
        . have e5:(a.tmps[5]?).getD undef=(.pointer (some ⟨w.heap.size+1+1,0,none⟩):Value):=gD (hI.fix 5 (by decide));have hK:=hJ;rw[<-aB (l:=aA) (i:=8) (k:=12) (by decide)]at hK;rw[<-aB (l:=aA) (i:=8) (k:=13) (by decide)]at hK;exact aF ho rfl (aE (v:=.pointer (some ⟨w.heap.size+1+1,0,none⟩)) (w':=w') (by simp[execOp,e5,go_sem]) ⟨rfl,hK⟩)
        . have e61:(a.tmps[61]?).getD undef=(.pointer (some ⟨w.heap.size+1+1,0,none⟩):Value):=gD (hI.done 8 61 (by simp) rfl (hdep ⟨8,.data⟩ (by simp) rfl));have hK:=hJ;rw[<-aB (l:=aA) (i:=9) (k:=12) (by decide)]at hK;rw[<-aB (l:=aA) (i:=9) (k:=13) (by decide)]at hK;exact aF ho rfl (aE (v:=.int .i64 g) (w':=w') (by simp[execOp,e61,k30,go_sem]) ⟨rfl,hK⟩)
        . have e4:(a.tmps[4]?).getD undef=(.pointer (some ⟨w.heap.size+1,0,none⟩):Value):=gD (hI.fix 4 (by decide));have hK:=hJ;rw[<-aB (l:=aA) (i:=10) (k:=12) (by decide)]at hK;rw[<-aB (l:=aA) (i:=10) (k:=13) (by decide)]at hK;exact aF ho rfl (aE (v:=.pointer (some ⟨w.heap.size+1,0,none⟩)) (w':=w') (by simp[execOp,e4,go_sem]) ⟨rfl,hK⟩)
        . have e63:(a.tmps[63]?).getD undef=(.pointer (some ⟨w.heap.size+1,0,none⟩):Value):=gD (hI.done 10 63 (by simp) rfl (hdep ⟨10,.data⟩ (by simp) rfl));have hK:=hJ;rw[<-aB (l:=aA) (i:=11) (k:=12) (by decide)]at hK;rw[<-aB (l:=aA) (i:=11) (k:=13) (by decide)]at hK;exact aF ho rfl (aE (v:=.int .i64 f) (w':=w') (by simp[execOp,e63,k20,go_sem]) ⟨rfl,hK⟩)
        . have e540:a.tmps.getD 54 undef=(.map (some gt):Value):=hI.done 1 54 (by simp) rfl (hdep ⟨1,.data⟩ (by simp) rfl);have e54:=gD e540;have e560:a.tmps.getD 56 undef=(.int .i64 f:Value):=hI.done 3 56 (by simp) rfl (hdep ⟨3,.data⟩ (by simp) rfl);have e56:=gD e560;have e620:a.tmps.getD 62 undef=(.int .i64 g:Value):=hI.done 9 62 (by simp) rfl (hdep ⟨9,.data⟩ (by simp) rfl);have e62:=gD e620;obtain⟨hj1,hj2,hj3⟩:=hJ;refine aF ho rfl (fD (g:=gt) (.tmp 54) (.tmp 56) (.tmp 62) rfl fT Try.underlying94 e540 f e560 (.int .i64 g) e620 hj1 ?_);intro w5 hm5 hu5;refine⟨rfl,?_,?_,?_⟩
          . rw[aJ (by omega)];rw[hl,pH]at hm5;exact hm5
          . rw[aB (by decide)];exact hj2.upd hu5 (λe=>hne e.symm)
          exact cC hj3 (hu5.more λi hi=>.inl (.inl hi))
        have e580:a.tmps.getD 58 undef=(.map (some gb):Value):=hI.done 5 58 (by simp) rfl (hdep ⟨5,.data⟩ (by simp) rfl);have e58:=gD e580;have e600:a.tmps.getD 60 undef=(.int .i64 g:Value):=hI.done 7 60 (by simp) rfl (hdep ⟨7,.data⟩ (by simp) rfl);have e60:=gD e600;have e640:a.tmps.getD 64 undef=(.int .i64 f:Value):=hI.done 11 64 (by simp) rfl (hdep ⟨11,.data⟩ (by simp) rfl);have e64:=gD e640;obtain⟨hj1,hj2,hj3⟩:=hJ;refine aF ho rfl (fD (g:=gb) (.tmp 58) (.tmp 60) (.tmp 64) rfl fT Try.underlying94 e580 g e600 (.int .i64 f) e640 hj2 ?_);intro w5 hm5 hu5;refine⟨rfl,?_,?_,?_⟩
        . rw[aB (by decide)];exact hj1.upd hu5 (λe=>hne e)
        . rw[aJ (by omega)];rw[hl,pH]at hm5;exact hm5
        exact cC hj3 (hu5.more λi hi=>.inl (.inr hi))
       case fin=>
        intro aA wz hz hall hJ;have hz:aA.size=14:=hz;have hall:∀i,i<14->aA.getD i false=true:=hall;simp only[List.size_toArray,List.length_cons,List.length_nil,Nat.reduceAdd,bI];simp
        have h12:=hall 12 (by omega);have h13:=hall 13 (by omega);rw[h12,h13]at hJ;have hst:=xW hJ;have hI2:eP gt gb w.heap.size (n.bind f g) wz:=⟨hst.st,(hst.upd.block _ (by omega) (by rintro(h | h) <;> omega)).trans Hx1.out⟩;have d1:=λo=>cell_of_row wz w.heap.size o _ _ _ hI2.2
        have d2:=λo=>cell_of_row wz (w.heap.size+1) o _ _ _ ((hst.upd.block _ (by omega) (by rintro(h | h) <;> omega)).trans Hx2.out)
        have d3:=λo=>cell_of_row wz (w.heap.size+1+1) o _ _ _ ((hst.upd.block _ (by omega) (by rintro(h | h) <;> omega)).trans Hx3.out)
        have hzz:=hst.upd.size;have Hst:=Lh (HS3.out.trans hst);have HI2:=Lh hI2;clear c1 c2 c3 hst hI2 hJ hall h12 h13;have hr2:cM dT (n.bind f g) xs ys=r:=(by rw[oM,<-HR.out,dT];simp only[hf,hg,hfine,and_self,if_true]);have Hr2:=Lh hr2;clear hr2;go_wp2_with (
         go_at_call 82
         refine(jM B (NmF gt gb) (eP gt gb w.heap.size) (eP.ok hgt hgb) #[.pointer (some ⟨w.heap.size,0,none⟩)] dT xs ys _ _ (n.bind f g) _ (Hst.out.upd.keepRd HX.out hB (λk hk=>HF.out.ge _ _ k HS.out hk)) (Hst.out.upd.keepRd HY.out hB (λk hk=>HF.out.ge _ _ k HS.out hk)) (by omega) HI2.out ?_).mono ?_
         . intro k hk hk' s1 w1 e1 e2 hw1 hs1 ht1 ht2;refine rU gt gb w.heap.size B hgt hgb xs[k] ys[k] s1 w1 e1 e2 hs1 ht1 ht2 (by omega) λvx vy w4 r1 r2 b4 i4=>?_
           have h1:=aZ hk;have h2:=fY xs[k];rw[<-h2]at h1;simp only[aK]at h1;exact Hih.out _ _ _ _ _ _ _ _ (by omega) r1 r2 b4 i4
         rintro e w5 ⟨rfl,hst5⟩;rw[Hr2.out]at hst5;try rw[Hr2.out])
        go_ret;exact⟨rfl,Hst.out.trans ⟨hst5.st.1,hst5.upd,hst5.grow⟩⟩
     have hfine:n.fine f g=false:=(by unfold Nm.fine;rw[hxv,hyv];simp[hyf]);have q1:(x !=g)=false:=(by simp[hxg]);have q2:(y !=f)=true:=(by simp[hyf]);clear hxv hyv hxg hyf;have hres:r=(false,n):=(by rw[<-HR.out,dT];simp[hf,hg,hfine]);have Hres:=Lh hres;clear hres;go_wp2_with fail;go_ret;rw[Hres.out];exact⟨rfl,HS3.out⟩
   have hfine:n.fine f g=false:=by unfold Nm.fine;rw[hxv,hyv];simp[hxg]
   have q1:(x !=g)=true:=by simp[hxg]
   clear hxv hyv hxg;have hres:r=(false,n):=by rw[<-HR.out,dT];simp[hf,hg,hfine]
   have Hres:=Lh hres;clear hres;go_wp2_with fail;go_ret;rw[Hres.out];exact⟨rfl,HS3.out⟩
 have hneg2:¬(f<0/\g<0):=hneg;by_cases hfg:f=g
 . have hnf:¬f<0:=by omega
   have q1:(f !=g)=false:=by simp[hfg]
   have HFG:=Lh hfg;clear hfg;go_enter Try.func54,Try.ntmps54;go_upto_region 1 with fail
   obtain⟨hx1,hx2,hx3,hB3,hz3⟩:=fW w (.cells #[.map (some gt),.map (some gb)] 96) (.cells #[.int .i64 f,.slice Ax xs.length cx] 87) (.cells #[.int .i64 g,.slice Ay ys.length cy] 87);generalize ((w.alloc (.cells #[.map (some gt),.map (some gb)] 96)).alloc (.cells #[.int .i64 f,.slice Ax xs.length cx] 87)).alloc (.cells #[.int .i64 g,.slice Ay ys.length cy] 87)=w3 at hx1 hx2 hx3 hB3 hz3 ⊢;have Hx1:=Lh hx1;have Hx2:=Lh hx2;have Hx3:=Lh hx3;have c1:=λo=>cell_of_row w3 w.heap.size o _ _ _ hx1
   have c2:=λo=>cell_of_row w3 (w.heap.size+1) o _ _ _ hx2
   have c3:=λo=>cell_of_row w3 (w.heap.size+1+1) o _ _ _ hx3
   have HB3:=Lh hB3;have hs3:=HF.out.step HS.out hB3;have HS3:=Lh hs3;clear hx1 hx2 hx3 hB3 hs3;have Hst:=Lh HS3.out;have HI2:=Lh (show eP gt gb w.heap.size n w3 from⟨HS3.out.st,Hx1.out⟩);have hr2:cM dT n xs ys=r:=by rw[oM,<-HR.out,dT];rw[if_neg hneg2,if_pos HFG.out]
   have Hr2:=Lh hr2;clear hr2;go_wp2_with (
    go_at_call 82
    refine(jM B (NmF gt gb) (eP gt gb w.heap.size) (eP.ok hgt hgb) #[.pointer (some ⟨w.heap.size,0,none⟩)] dT xs ys _ _ n _ (Hst.out.upd.keepRd HX.out hB (λk hk=>HF.out.ge _ _ k HS.out hk)) (Hst.out.upd.keepRd HY.out hB (λk hk=>HF.out.ge _ _ k HS.out hk)) (by omega) HI2.out ?_).mono ?_
    . intro k hk hk' s1 w1 e1 e2 hw1 hs1 ht1 ht2;refine rU gt gb w.heap.size B hgt hgb xs[k] ys[k] s1 w1 e1 e2 hs1 ht1 ht2 (by omega) λvx vy w4 r1 r2 b4 i4=>?_
      have h1:=aZ hk;have h2:=fY xs[k];rw[<-h2]at h1;simp only[aK]at h1;exact Hih.out _ _ _ _ _ _ _ _ (by omega) r1 r2 b4 i4
    rintro e w5 ⟨rfl,hst5⟩;rw[Hr2.out]at hst5;try rw[Hr2.out])
   go_ret;exact⟨rfl,Hst.out.trans ⟨hst5.st.1,hst5.upd,hst5.grow⟩⟩
 have hres:r=(false,n):=by rw[<-HR.out,dT,if_neg hneg2,if_neg hfg]
 have q1:(f !=g)=true:=by simp[hfg]
 have Hres:=Lh hres;have hcase:(f<0/\¬g<0)\/¬f<0:=by omega
 clear hres hneg hneg2;rcases hcase with⟨hf,hg⟩ | hf
 all_goals
  go_enter Try.func54,Try.ntmps54;go_upto_region 1 with fail
  obtain⟨hx1,hx2,hx3,hB3,hz3⟩:=fW w (.cells #[.map (some gt),.map (some gb)] 96) (.cells #[.int .i64 f,.slice Ax xs.length cx] 87) (.cells #[.int .i64 g,.slice Ay ys.length cy] 87);generalize ((w.alloc (.cells #[.map (some gt),.map (some gb)] 96)).alloc (.cells #[.int .i64 f,.slice Ax xs.length cx] 87)).alloc (.cells #[.int .i64 g,.slice Ay ys.length cy] 87)=w3 at hx1 hx2 hx3 hB3 hz3 ⊢;have Hx1:=Lh hx1;have Hx2:=Lh hx2;have Hx3:=Lh hx3;have c1:=λo=>cell_of_row w3 w.heap.size o _ _ _ hx1
  have c2:=λo=>cell_of_row w3 (w.heap.size+1) o _ _ _ hx2
  have c3:=λo=>cell_of_row w3 (w.heap.size+1+1) o _ _ _ hx3
  have HB3:=Lh hB3;have hs3:=HF.out.step HS.out hB3;have HS3:=Lh hs3;clear hx1 hx2 hx3 hB3 hs3;go_wp2_with fail;go_ret;rw[Hres.out];exact⟨rfl,HS3.out⟩
def kY (n:Nm)(x y:Lt):Bool × Nm:=
 if x.neg=y.neg then(if (dT n x.l y.l).1=true then dT (dT n x.l y.l).2 x.r y.r else(false,(dT n x.l y.l).2))else(false,n)
def aI2:Nm:=⟨λ_=>none,λ_=>none⟩
def dW (a b:Cl):Bool:=(cM kY aI2 a b).1
theorem sJ {σ:Type} (B:Nat)(F:World->Nat->Prop)(I:σ->World->Prop)(hF:StF B F I)(bx:Array Value)(p:σ->Lt->Lt->Bool × σ)(xs ys:Cl)(vx vy:Value)(s:σ)(w:World)
 (hx:Rd w B (aT xs) vx) (hy:Rd w B (aT ys) vy) (hB:B<=w.heap.size) (hs:I s w)
 (hclo:∀k (hk:k<xs.length) (hk':k<ys.length) s1 w1 e1 e2,w.heap.size<=w1.heap.size->I s1 w1->LtV w1 B xs[k] e1->LtV w1 B ys[k] e2->Calls Try.prog 53 (#[e1,e2]++bx) w1 (StB F I (p s1 xs[k] ys[k]) w1)):
 Calls Try.prog 52 #[vx,vy,.func (.func 53) #[] bx] w (StB F I (cM p s xs ys) w):=by
 obtain⟨Ax,cx,rfl,hcx,hnx,hmx⟩:=Rd.cl_form hx;obtain⟨Ay,cy,rfl,hcy,hny,hmy⟩:=Rd.cl_form hy;have HF:=Lh hF;have HX:=Lh hx;have HY:=Lh hy;have HS:=Lh hs;have Hclo:=Lh hclo;clear hF hx hy hs hclo;by_cases hl:xs.length=ys.length
 . have he:cM p s xs ys=eI p s xs ys:=by unfold cM;rw[if_pos hl]
   obtain⟨r,hr⟩:∃r,eI p s xs ys=r:=⟨_,rfl⟩;rw[he,hr];have HR:=Lh hr;clear hr;have q:(((xs.length:Nat):Int) !=((ys.length:Nat):Int))=false:=by rw[hl];simp
   have Hl:=Lh hl;clear he hl;go_enter Try.func52,Try.ntmps52;go_wp2_with fail;go_loopw [17] (λi wr=>∃(k:Nat) (s1:σ),i=.int .i64 k/\k<=xs.length/\r=eI p s1 (xs.drop k) (ys.drop k)/\Stp F I s1 w wr) (λi _=>xs.length-(intOf i).toNat)
   case atStart=>exact⟨0,s,rfl,Nat.zero_le _,HR.out.symm,Stp.refl HS.out⟩
   obtain⟨k,s1,rfl,hk,hgo,hst⟩:=hrel;have hzr:=hst.upd.size;have Hgo:=Lh hgo;have Hst:=Lh hst;clear hgo hst;by_cases hlt:k<xs.length
   . have hlt2:k<ys.length:=(by have:=Hl.out;omega);have hat:=pF (p:=p) (s:=s1) hlt hlt2;obtain⟨ab1,off1,n1,f1,zs1,A1,c1,g1,us1,D1,d1,rfl,hxk,hb1,k0,k1,k2,k3,k4,hr1,hs1⟩:=Rd.lt_at (Hst.out.rd HF.out HS.out HX.out hB) hlt;obtain⟨ab2,off2,n2,f2,zs2,A2,c2,g2,us2,D2,d2,rfl,hyk,hb2,l0,l1,l2,l3,l4,hr2,hs2⟩:=Rd.lt_at (Hst.out.rd HF.out HS.out HY.out hB) hlt2;have hcl:∀w1,Below wr.heap.size wr w1->Calls Try.prog 53 (#[.agg #[.bool n1,.int .i64 f1,.slice A1 zs1.length c1,.int .i64 g1,.slice D1 us1.length d1],.agg #[.bool n2,.int .i64 f2,.slice A2 zs2.length c2,.int .i64 g2,.slice D2 us2.length d2]]++bx) w1 (StB F I (p s1 xs[k] ys[k]) w1):=by
      intro w1 hb;refine Hclo.out k hlt hlt2 s1 w1 _ _ (Nat.le_trans hzr hb.size) (HF.out.low _ _ _ Hst.out.st hb).1 ?_ ?_
      . rw[hxk];exact⟨A1,c1,D1,d1,rfl,hr1.low hb (by omega),hs1.low hb (by omega)⟩
      rw[hyk];exact⟨A2,c2,D2,d2,rfl,hr2.low hb (by omega),hs2.low hb (by omega)⟩
     have Hcl:=Lh hcl;have Hat:=Lh hat;have hq1:ab1<wr.heap.size:=(by omega);have hq2:ab2<wr.heap.size:=(by omega);clear hcl hxk hyk hr1 hr2 hs1 hs2 hat;obtain⟨⟨b,s2⟩,hp⟩:∃r,p s1 xs[k] ys[k]=r:=⟨_,rfl⟩;rw[hp]at Hcl Hat;clear hp;cases b with
     | true=>
      go_wp2_with (
       go_at_call 53
       refine(Hcl.out _ ((aD wr _).trans ((aD _ _).mono (by simp)))).mono ?_;rintro e w1 ⟨rfl,hst2⟩;have Hst2:=Lh ((HF.out.step Hst.out.st ((aD wr _).trans ((aD _ _).mono (by simp)))).trans hst2);clear hst2)
      go_roundw
      case rel=>exact⟨k+1,s2,by go_num,by omega,by rw[Hgo.out,Hat.out];simp,Hst.out.trans Hst2.out⟩
      case measure=>simp[intOf];omega
     | false=>
      go_wp2_with (
       go_at_call 53
       refine(Hcl.out _ ((aD wr _).trans ((aD _ _).mono (by simp)))).mono ?_;rintro e w1 ⟨rfl,hst2⟩;have Hst2:=Lh ((HF.out.step Hst.out.st ((aD wr _).trans ((aD _ _).mono (by simp)))).trans hst2);clear hst2)
      go_ret;obtain rfl:r=(false,s2):=by rw[Hgo.out,Hat.out,if_neg (by decide)]
      exact⟨rfl,Hst.out.trans Hst2.out⟩
   have hend:=mK (p:=p) (s:=s1) (xs:=xs) (ys:=ys) (k:=k) (by omega) (by have:=Hl.out;omega);have hres:r=(true,s1):=by rw[Hgo.out,hend]
   have Hres:=Lh hres;clear hend hres;go_wp2_with fail;go_ret;rw[Hres.out];exact⟨rfl,Hst.out⟩
 have he:cM p s xs ys=(false,s):=by unfold cM;rw[if_neg hl]
 rw[he];have q:(((xs.length:Nat):Int) !=((ys.length:Nat):Int))=true:=by rw[bne_iff_ne];omega
 clear he hl;go_enter Try.func52,Try.ntmps52;go_wp2_with fail;go_ret;exact⟨rfl,Stp.refl HS.out⟩
theorem aJ8 (gt gb bn B:Nat)(hgt:B<=gt)(hgb:B<=gb)(hne:gt≠gb)(x y:Lt)(n:Nm)(w1:World)(e1 e2:Value)(hs:eP gt gb bn n w1)(h1:LtV w1 B x e1)(h2:LtV w1 B y e2)(hB:B<=w1.heap.size):
 Calls Try.prog 53 (#[e1,e2]++ #[.pointer (some ⟨bn,0,none⟩)]) w1 (StB (NmF gt gb) (eP gt gb bn) (kY n x y) w1):=by
 obtain⟨A1,c1,D1,d1,rfl,hr1,hs1⟩:=h1;obtain⟨A2,c2,D2,d2,rfl,hr2,hs2⟩:=h2;rcases x with⟨n1,⟨f1,zs1⟩,⟨g1,us1⟩⟩
 rcases y with⟨n2,⟨f2,zs2⟩,⟨g2,us2⟩⟩
 simp only[Tm.fn,Tm.args]at*;obtain⟨r,hr⟩:∃r,kY n ⟨n1,.mk f1 zs1,.mk g1 us1⟩ ⟨n2,.mk f2 zs2,.mk g2 us2⟩=r:=⟨_,rfl⟩;rw[hr];unfold kY at hr;simp only at hr;have hbn:=λo=>cell_of_row w1 bn o _ _ _ hs.2
 have hln:=eA hs.2;have HR:=Lh hr;have R1:=Lh hr1;have R2:=Lh hr2;have S1:=Lh hs1;have S2:=Lh hs2;have HS:=Lh hs;clear hr1 hr2 hs1 hs2 hs hr;by_cases hn:n1=n2
 . obtain⟨⟨b1,m1⟩,hm1⟩:∃r,dT n (.mk f1 zs1) (.mk f2 zs2)=r:=⟨_,rfl⟩;obtain⟨⟨b2,m2⟩,hm2⟩:∃r,dT m1 (.mk g1 us1) (.mk g2 us2)=r:=⟨_,rfl⟩;have hrr:r=if b1=true then(b2,m2)else(false,m1):=by
    rw[<-HR.out,if_pos hn,hm1];simp only[hm2]
   have q1:(n1==n2)=true:=by simp[hn]
   have HRR:=Lh hrr;have HM1:=Lh hm1;have HM2:=Lh hm2;clear hrr hm1 hm2 hn HR;cases b1 with
   | true=>
    go_enter Try.func53,Try.ntmps53;go_upto_region 1 with fail
    obtain⟨hx1,hx2,hB3,hz3⟩:=aO w1 (.cells #[.bool n1,.int .i64 f1,.slice A1 zs1.length c1,.int .i64 g1,.slice D1 us1.length d1] 53) (.cells #[.bool n2,.int .i64 f2,.slice A2 zs2.length c2,.int .i64 g2,.slice D2 us2.length d2] 53);generalize (w1.alloc (.cells #[.bool n1,.int .i64 f1,.slice A1 zs1.length c1,.int .i64 g1,.slice D1 us1.length d1] 53)).alloc (.cells #[.bool n2,.int .i64 f2,.slice A2 zs2.length c2,.int .i64 g2,.slice D2 us2.length d2] 53)=w3 at hx1 hx2 hB3 hz3 ⊢;have hbn3:=λo=>(hB3.cell (p:=⟨bn,o,none⟩) hln).trans (hbn o)
    have k1:=λo=>cell_of_row w3 w1.heap.size o _ _ _ hx1
    have k2:=λo=>cell_of_row w3 (w1.heap.size+1) o _ _ _ hx2
    have HB3:=Lh hB3;have HX1:=Lh hx1;have HX2:=Lh hx2;have hI2:eP gt gb bn n w3:=((eP.ok hgt hgb).step HS.out hB3).st;have hn1:¬NmF gt gb w3 w1.heap.size:=by
     intro h;have:=(NmI.ok (B:=B) hgt hgb).lt n w1 _ HS.out.1 (show NmF gt gb w1 w1.heap.size from h);omega
    have hn2:¬NmF gt gb w3 (w1.heap.size+1):=by
     intro h;have:=(NmI.ok (B:=B) hgt hgb).lt n w1 _ HS.out.1 (show NmF gt gb w1 (w1.heap.size+1)from h);omega
    have HI2:=Lh hI2;clear hx1 hx2 hB3 hbn hI2;go_wp2_with (first
     | (
      go_at_call_of 54 (Value.slice A1 zs1.length c1)
      refine(kG _ gt gb B hgt hgb hne f1 f2 zs1 zs2 _ _ n w3 (Nat.lt_succ_self _) (R1.out.low HB3.out hB) (R2.out.low HB3.out hB) (by omega) HI2.out.1).mono ?_;rintro e w4 ⟨rfl,hst⟩;rw[HM1.out]at hst ⊢;have hst2:=HI2.out.stp hst;have HST:=Lh hst2;have hbn4:=λo=>cell_of_row w4 bn o _ _ _ hst2.st.2
      have j1:=λo=>cell_of_row w4 w1.heap.size o _ _ _ ((hst2.keep (by omega) hn1).1.trans HX1.out)
      have j2:=λo=>cell_of_row w4 (w1.heap.size+1) o _ _ _ ((hst2.keep (by omega) hn2).1.trans HX2.out)
      have hz4:=hst2.upd.size;clear hst hst2 hbn3 k1 k2)
     | (
      go_at_call_of 54 (Value.slice D1 us1.length d1)
      refine(kG _ gt gb B hgt hgb hne g1 g2 us1 us2 _ _ m1 w4 (Nat.lt_succ_self _) (HST.out.rd (eP.ok hgt hgb) HI2.out (S1.out.low HB3.out hB) (by omega)) (HST.out.rd (eP.ok hgt hgb) HI2.out (S2.out.low HB3.out hB) (by omega)) (by omega) HST.out.st.1).mono ?_;rintro e w5 ⟨rfl,hst⟩;rw[HM2.out]at hst ⊢;have HST5:=Lh (HST.out.st.stp hst);clear hst))
    go_ret;rw[HRR.out];exact⟨rfl,(((eP.ok hgt hgb).step HS.out HB3.out).trans HST.out).trans HST5.out⟩
   | false=>
    go_enter Try.func53,Try.ntmps53;go_upto_region 1 with fail
    obtain⟨hx1,hx2,hB3,hz3⟩:=aO w1 (.cells #[.bool n1,.int .i64 f1,.slice A1 zs1.length c1,.int .i64 g1,.slice D1 us1.length d1] 53) (.cells #[.bool n2,.int .i64 f2,.slice A2 zs2.length c2,.int .i64 g2,.slice D2 us2.length d2] 53);generalize (w1.alloc (.cells #[.bool n1,.int .i64 f1,.slice A1 zs1.length c1,.int .i64 g1,.slice D1 us1.length d1] 53)).alloc (.cells #[.bool n2,.int .i64 f2,.slice A2 zs2.length c2,.int .i64 g2,.slice D2 us2.length d2] 53)=w3 at hx1 hx2 hB3 hz3 ⊢;have hbn3:=λo=>(hB3.cell (p:=⟨bn,o,none⟩) hln).trans (hbn o)
    have k1:=λo=>cell_of_row w3 w1.heap.size o _ _ _ hx1
    have k2:=λo=>cell_of_row w3 (w1.heap.size+1) o _ _ _ hx2
    have HB3:=Lh hB3;have HI2:=Lh ((eP.ok hgt hgb).step HS.out hB3).st;clear hx1 hx2 hB3 hbn;go_wp2_with (
     go_at_call_of 54 (Value.slice A1 zs1.length c1)
     refine(kG _ gt gb B hgt hgb hne f1 f2 zs1 zs2 _ _ n w3 (Nat.lt_succ_self _) (R1.out.low HB3.out hB) (R2.out.low HB3.out hB) (by omega) HI2.out.1).mono ?_;rintro e w4 ⟨rfl,hst⟩;rw[HM1.out]at hst ⊢;have HST:=Lh (HI2.out.stp hst);clear hst)
    go_ret;rw[HRR.out];exact⟨rfl,((eP.ok hgt hgb).step HS.out HB3.out).trans HST.out⟩
 have hrr:r=(false,n):=by rw[<-HR.out,if_neg hn]
 have q1:(n1==n2)=false:=by simp[hn]
 have HRR:=Lh hrr;clear hrr hn HR;go_enter Try.func53,Try.ntmps53;go_wp2_with fail;go_ret;rw[HRR.out];exact⟨rfl,(eP.ok hgt hgb).step HS.out ((aD w1 _).trans ((aD _ _).mono (by simp)))⟩
theorem vP (a b:Cl)(va vb:Value)(B:Nat)(w:World)(ha:Rd w B (aT a) va)(hb:Rd w B (aT b) vb)(hB:B<=w.heap.size):
 Calls Try.prog 37 #[va,vb] w (aP (dW a b) w):=by
 obtain⟨A1,c1,rfl,hc1,hn1,hm1⟩:=Rd.cl_form ha;obtain⟨A2,c2,rfl,hc2,hn2,hm2⟩:=Rd.cl_form hb;obtain⟨⟨r,m⟩,hr⟩:∃r,cM kY aI2 a b=r:=⟨_,rfl⟩;have hv:dW a b=r:=by unfold dW;rw[hr]
 rw[hv];have HR:=Lh hr;have HA:=Lh ha;have HB:=Lh hb;clear hr hv ha hb;have hmm:= @run_makeMap Try.prog;go_enter Try.func37,Try.ntmps37;go_upto_region 2 with fail
 obtain⟨hx1,hx2,hx3,hB3,hz3⟩:=fW w (.map #[] 0) (.map #[] 0) (.cells #[.map (some w.heap.size),.map (some (w.heap.size+1))] 96);generalize ((w.alloc (.map #[] 0)).alloc (.map #[] 0)).alloc (.cells #[.map (some w.heap.size),.map (some (w.heap.size+1))] 96)=w3 at hx1 hx2 hx3 hB3 hz3 ⊢;have hI2:eP w.heap.size (w.heap.size+1) (w.heap.size+2) aI2 w3:=⟨⟨⟨#[],0,[],hx1,rfl,λ_=>rfl,by simp,by simp,by simp⟩,⟨#[],0,[],hx2,rfl,λ_=>rfl,by simp,by simp,by simp⟩⟩,hx3⟩;have HI2:=Lh hI2;have HB3:=Lh hB3;clear hx1 hx2 hx3 hI2 hB3 hmm;go_wp2_with (
  go_at_call 52
  refine(sJ w.heap.size (NmF w.heap.size (w.heap.size+1)) (eP w.heap.size (w.heap.size+1) (w.heap.size+2)) (eP.ok (Nat.le_refl _) (by omega)) #[.pointer (some ⟨w.heap.size+2,0,none⟩)] kY a b _ _ aI2 _ ((HA.out.low HB3.out hB).more hB) ((HB.out.low HB3.out hB).more hB) (by omega) HI2.out ?_).mono ?_
  . intro k hk hk' s1 w1 e1 e2 hw1 hs1 ht1 ht2;exact aJ8 w.heap.size (w.heap.size+1) (w.heap.size+2) w.heap.size (Nat.le_refl _) (by omega) (by omega) _ _ s1 w1 e1 e2 hs1 ht1 ht2 (by omega)
  rintro e w5 ⟨rfl,hst5⟩;rw[HR.out]at hst5;try rw[HR.out])
 go_ret;exact⟨rfl,HB3.out.trans (hst5.upd.toLow (by omega) (by rintro k (rfl | rfl) <;> omega))⟩
def Own (w:World)(base:Nat)(e:TypeId)(size:Nat)(v:Value)(rows:List (List Value)):Prop:=
 w.ownsRow base e size v rows.length rows.flatten/\∀r∈rows,r.length=size
structure SliceTy (P:Program)(t e:TypeId)(size bytes:Nat):Prop where
 ht:P.underlying t=some (.slice e)
 hi:∃i z,P.info? e=some i/\i.zero=some z/\i.size=size/\i.bytes=bytes/\z.cells.size=size
 hs:0<size
theorem jI {P:Program} {t e:TypeId} {z:Value} {size bytes:Nat} (ht:P.underlying t=some (.slice e))(h:(P.info? e).map (λi=>(i.zero,i.size,i.bytes))=some (some z,size,bytes))
 (hz:z.cells.size=size) (hs:0<size):SliceTy P t e size bytes:=by
 obtain⟨i,h1,h2,h3,h4⟩:=info_parts h;exact⟨ht,⟨i,z,h1,h2,h3,h4,hz⟩,hs⟩
section
variable {w w':World} {base size:Nat} {e:TypeId} {v:Value} {rows:List (List Value)}
theorem Own.nil (w:World)(base:Nat)(e:TypeId)(size:Nat):Own w base e size (.slice none 0 0) []:=⟨World.ownsRow_nil w base e size,by simp⟩
theorem Own.lt (h:Own w base e size v rows):∀g,v.ownBlock=some g->base<=g/\g<w.heap.size:=h.1.lt
theorem Own.upd {F:Nat->Prop} (h:Own w base e size v rows)(hu:Upd w w' F)(hF:∀g,v.ownBlock=some g->¬F g):Own w' base e size v rows:=by
 refine⟨?_,h.2⟩;obtain⟨hl,hr⟩:=h.1;refine⟨hl,?_⟩;rcases hr with hr | ⟨g,cap,cur,hv,hb,hg,hc⟩
 . exact .inl hr
 refine .inr ⟨g,cap,cur,hv,hb,?_,hc⟩;rw[hu.block g (Array.getElem?_eq_some_iff.1 hg).1 (hF g (by rw[hv];rfl))];exact hg
theorem Own.low (h:Own w base e size v rows)(hb:Below w.heap.size w w'):Own w' base e size v rows:=h.upd (Upd.low hb (λ_=>False)) (by simp)
theorem Own.alloc (h:Own w base e size v rows)(o:Obj):Own (w.alloc o) base e size v rows:=h.low (aD w o)
theorem Own.drewN (h:Own w base e size v rows)(n:Nat):Own (w.drewN n) base e size v rows:=h
theorem Own.base_le {base':Nat} (h:Own w base e size v rows)(hb:base'<=base):Own w base' e size v rows:=by
 refine⟨⟨h.1.1,?_⟩,h.2⟩;rcases h.1.2 with hr | ⟨g,cap,cur,hv,hb',hg,hc⟩
 . exact .inl hr
 exact .inr ⟨g,cap,cur,hv,Nat.le_trans hb hb',hg,hc⟩
theorem Own.ne_cells {b:Nat} {cs:Array Value} {t:TypeId} {fr:Nat × Nat} (h:Own w base e size v rows)(hb:w.heap[b]? =some (.cells cs t fr))(hne:t≠e):v.ownBlock≠some b:=by
 intro hv;rcases h.1.2 with⟨rfl,_⟩ | ⟨g,cap,cur,rfl,_,hg,_⟩
 . cases hv
 injection hv with hv
 simp only at hv;subst hv;rw[hg]at hb;injection hb with hb
 injection hb with _ ht
 exact hne ht.symm
theorem Own.ne_map {b:Nat} {es:Array MapEntry} {c:Nat} (h:Own w base e size v rows)(hb:w.heap[b]? =some (.map es c)):v.ownBlock≠some b:=by
 intro hv;rcases h.1.2 with⟨rfl,_⟩ | ⟨g,cap,cur,rfl,_,hg,_⟩
 . cases hv
 injection hv with hv
 simp only at hv;subst hv;rw[hg]at hb;cases hb
theorem Own.ne_own {base' size':Nat} {e':TypeId} {v':Value} {rows':List (List Value)} (h:Own w base e size v rows)(h':Own w base' e' size' v' rows')(hne:e≠e')(g:Nat)(hg:v.ownBlock=some g):v'.ownBlock≠some g:=by
 rcases h.1.2 with⟨rfl,_⟩ | ⟨g',cap,cur,rfl,_,hh,_⟩
 . cases hg
 injection hg with hg
 simp only at hg;subst hg;exact h'.ne_cells hh hne
theorem Own.form (h:Own w base e size v rows):∃A c,v=.slice A rows.length c/\rows.length<=c/\c<=maxLen:=by
 rcases h.1.2 with⟨rfl,hn⟩ | ⟨g,cap,cur,hv,hb,hg,hnc,hcm,_⟩
 . rw[hn];exact⟨none,0,rfl,Nat.le_refl _,Nat.zero_le _⟩
 exact⟨_,cap,hv,hnc,hcm⟩
theorem qF {α:Type} (rows:List (List α))(size:Nat)(hr:∀r∈rows,r.length=size)(k j:Nat)(hk:k<rows.length)(hj:j<size):
 rows.flatten[k*size+j]? =some (rows[k][j]'(by rw[hr _ (List.getElem_mem hk)];exact hj)):=by
 induction rows generalizing k with
 | nil=>simp at hk
 | cons r rows ih=>
  have h0:r.length=size:=hr r (by simp);cases k with
  | zero=>
   simp only[List.flatten_cons,Nat.zero_mul,Nat.zero_add,List.getElem_cons_zero];rw[List.getElem?_append_left (by omega)];exact List.getElem?_eq_getElem (by omega)
  | succ k=>
   simp only[List.flatten_cons,List.getElem_cons_succ];rw[List.getElem?_append_right (by rw[h0,Nat.succ_mul];omega)];rw[<-ih (λr hr'=>hr r (by simp[hr'])) k (by simpa using hk)];congr 1
   rw[h0,Nat.succ_mul];omega
theorem Own.cell {k j:Nat} (h:Own w base e size v rows)(hk:k<rows.length)(hj:j<size):
 ∃g c,v=.slice (some ⟨g,0,none⟩) rows.length c/\base<=g/\g<w.heap.size/\w.cell? ⟨g,k*size+j,none⟩=some (rows[k][j]'(by rw[h.2 _ (List.getElem_mem hk)];exact hj))/\w.frozen? ⟨g,k*size+j,none⟩=false:=by
 rcases h.1.2 with⟨_,hn⟩ | ⟨g,cap,cur,hv,hb,hg,hnc,hcm,hcs,htake⟩
 . omega
 refine⟨g,cap,hv,hb,(Array.getElem?_eq_some_iff.1 hg).1,?_,frozen_of_row w g _ cur e hg⟩;rw[cell_of_row w g _ cur e (0,0) hg,<-Array.getElem?_toList,<-qF rows size h.2 k j hk hj,<-htake,List.getElem?_take,if_pos];have:(k+1)*size<=rows.length*size:=Nat.mul_le_mul_right _ hk;rw[Nat.succ_mul]at this;omega
theorem Own.row_at {n c k:Nat} {A:Option Addr} (h:Own w base e size (.slice A n c) rows)(hk:k<rows.length)(hs:0<size):
 ∃g,A=some ⟨g,0,none⟩/\base<=g/\g<w.heap.size/\(∀j (hj:j<size),w.cell? ⟨g,k*size+j,none⟩=some (rows[k][j]'(by rw[h.2 _ (List.getElem_mem hk)];exact hj)))/\(∀j,j<size->w.frozen? ⟨g,k*size+j,none⟩=false):=by
 obtain⟨g,c',hv,hb,hg,_⟩:=h.cell hk hs;injection hv with hA _ _
 refine⟨g,hA,hb,hg,λj hj=>?_,λj hj=>?_⟩;all_goals
  obtain⟨g1,c1,hv1,_,_,hc1,hf1⟩:=h.cell hk hj;injection hv1 with hA1 _ _
  rw[hA]at hA1;injection hA1 with hA1
  injection hA1 with hA1 _ _
  subst hA1;first | exact hc1 | exact hf1
theorem Own.rd (h:Own w base e size v rows)(hn:rows.length<=140737488351232):Rd w w.heap.size (.sl size (rows.map λr=>r.map .leaf)) v:=by
 rcases h.1.2 with⟨rfl,hn⟩ | ⟨g,cap,cur,hv,hb,hg,hnc,hcm,hcs,htake⟩
 . have:rows=[]:=List.eq_nil_of_length_eq_zero hn;subst this;exact .none_ _
 have hlt:g<w.heap.size:=(Array.getElem?_eq_some_iff.1 hg).1;have:=Rd.row (w:=w) (B:=w.heap.size) size g 0 cap (rows.map λr=>r.map .leaf) (λk j=>((rows[k]?.getD [])[j]?).getD undef)
  (by intro r hr;obtain⟨r',hr',rfl⟩:=List.mem_map.1 hr;rw[List.length_map];exact h.2 r' hr')
  (by simpa using hnc) (by simpa using hn) hcm hlt
  (by
   intro k j hk hj;rw[List.length_map]at hk;obtain⟨g',c',hv',_,_,hc',_⟩:=h.cell hk hj;rw[hv]at hv';injection hv' with hA _ _
   injection hA with hA
   injection hA with hA _ _
   subst hA;rw[Nat.zero_add,hc'];have hjl:j<rows[k].length:=by rw[h.2 _ (List.getElem_mem hk)];exact hj
   simp[hk,hjl])
  (by
   intro k hk j hj;simp only[List.length_map]at hk;simp only[List.getElem_map,List.length_map]at hj ⊢;have:((rows[k]?.getD [])[j]?).getD undef=rows[k][j]:=by simp[hk,hj]
   rw[this];exact .leaf _)
 rw[List.length_map]at this;rw[hv];exact this
end
theorem Own.set1 {w:World} {base g n c j:Nat} {e:TypeId} {rows:List Value} (h:Own w base e 1 (.slice (some ⟨g,0,none⟩) n c) (rows.map λu=>[u]))(u:Value):
 Own (w.setCell ⟨g,j,none⟩ u) base e 1 (.slice (some ⟨g,0,none⟩) n c) ((rows.set j u).map λu=>[u]):=by
 have hn:n=rows.length:=by
  obtain⟨A,c',hv,_⟩:=h.form;injection hv with _ hn _
  simpa using hn
 subst hn;have hfl:∀l:List Value,(l.map λu=>[u]).flatten=l:=λl=>by induction l with | nil=>rfl | cons a l ih=>simp[ih]
 refine⟨?_,by intro r hr;obtain⟨u',_,rfl⟩:=List.mem_map.1 hr;rfl⟩;have h1:=h.1;rw[List.length_map,hfl]at h1;have:=(h1.stored j u).1;rw[List.length_map,hfl,List.length_set];exact this
section
variable {P:Program} (w:World)
theorem bN {ops:Array Oper} {rest:List Oper} {o:Oper} {a:Act} {Q:Exit->Act->World->Prop} (hgd:o.guard=none)(s x:Operand)(t:TypeId)
 (ho:o.op=.call {callee:=.builtin .append,args:= #[s,x],argTypes:= #[t,t]})
 {e:TypeId} {size bytes:Nat} (hT:SliceTy P t e size bytes)
 {base:Nat} {v:Value} {rows:List (List Value)} (hs:a.eval s=v) (hown:Own w base e size v rows)
 {g:Nat} {cells:Array Value} {te:TypeId} (hx:a.eval x=.slice (some ⟨g,0,none⟩) 1 1) (hg:w.heap[g]? =some (.cells cells te (0,0))) (hcs:cells.size=size) (h1:∀u∈cells.toList,u.oneCell'=true)
 (hbytes:(rows.length+1)*bytes<=140737488355328) (h63:rows.length+1<=maxLen) (hbase:base<=w.heap.size)
 (h:∀v' w',Own w' base e size v' (rows++[cells.toList])->Upd w w' (λk=>v.ownBlock=some k)->(v'.ownBlock=v.ownBlock\/v'.ownBlock=some w.heap.size)->wpList P ops Q rest (a.put o.dst v') w'):
 wpList P ops Q (o::rest) a w:=by
 obtain⟨i,z,hi,hz,hsize,hby,hzs⟩:=hT.hi;refine wpList_append_own_at (P:=P) w hgd s x t ho base e i z size bytes hT.ht hi hz hsize hby hzs hT.hs v rows.length rows.flatten hs hown.1 ⟨g,0,none⟩ 1 1 cells.toList hx
  (by rw[Nat.one_mul,Array.length_toList];exact hcs) ?_ h1 h63 hbytes hbase ?_
 . intro j u hu;have hadd:(⟨g,0,none⟩:Addr).add j=⟨g,j,none⟩:=by unfold Addr.add;split <;> simp_all
   rw[hadd,cell_of_row w g j cells te (0,0) hg,<-Array.getElem?_toList];exact hu
 intro v' w' hown' hgr _ hat;refine h v' w' ⟨?_,?_⟩ (Upd.grown hgr) hat
 . rw[List.length_append,List.flatten_append];simpa using hown'
 intro r hr;rcases List.mem_append.1 hr with h | h
 . exact hown.2 r h
 rw[List.mem_singleton.1 h,Array.length_toList];exact hcs
end
inductive RdP (w:World)(P:Nat->Prop):Tr->Value->Prop
 | leaf (v:Value):RdP w P (.leaf v) v
 | none_ (size:Nat):RdP w P (.sl size []) (.slice none 0 0)
 | empty (size:Nat) (a:Addr):RdP w P (.sl size []) (.slice (some a) 0 0)
 | row (size b off c:Nat) (rows:List (List Tr)) (us:Nat->Nat->Value) (hl:∀r∈rows,r.length=size) (hc:rows.length<=c) (hn:rows.length<=140737488351232) (hm:c<=maxLen) (hb:P b) (hlt:b<w.heap.size)
  (hcell:∀k j,k<rows.length->j<size->w.cell? ⟨b,off+k*size+j,none⟩=some (us k j))
  (hr:∀k (h:k<rows.length) j (h':j<rows[k].length),RdP w P rows[k][j] (us k j)):
  RdP w P (.sl size rows) (.slice (some ⟨b,off,none⟩) rows.length c)
section
variable {w w':World} {P P':Nat->Prop} {t:Tr} {v:Value}
theorem RdP.keep (h:RdP w P t v)(hz:w.heap.size<=w'.heap.size)(hk:∀p:Addr,P p.block->p.block<w.heap.size->w'.cell? p=w.cell? p):RdP w' P t v:=by
 induction h with
 | leaf v=>exact .leaf v
 | none_ size=>exact .none_ size
 | empty size a=>exact .empty size a
 | row size b off c rows us hl hc hn hm hb hlt hcell hr ih=>exact .row size b off c rows us hl hc hn hm hb (Nat.lt_of_lt_of_le hlt hz) (λk j hk' hj=>(hk _ hb hlt).trans (hcell k j hk' hj)) ih
theorem RdP.more (h:RdP w P t v)(hP:∀b,P b->b<w.heap.size->P' b):RdP w P' t v:=by
 induction h with
 | leaf v=>exact .leaf v
 | none_ size=>exact .none_ size
 | empty size a=>exact .empty size a
 | row size b off c rows us hl hc hn hm hb hlt hcell hr ih=>exact .row size b off c rows us hl hc hn hm (hP b hb hlt) hlt hcell ih
theorem RdP.upd {F:Nat->Prop} (h:RdP w P t v)(hu:Upd w w' F)(hF:∀b,P b->b<w.heap.size->¬F b):RdP w' P t v:=
 h.keep hu.size λ_ hp hl=>World.cell?_of_block (hu.block _ hl (hF _ hp hl))
theorem RdP.low (h:RdP w P t v)(hb:Below w.heap.size w w'):RdP w' P t v:=h.keep hb.size λ_ _ hl=>hb.cell hl
theorem RdP.rd {B:Nat} (h:RdP w P t v)(hP:∀b,P b->b<w.heap.size->b<B):Rd w B t v:=by
 induction h with
 | leaf v=>exact .leaf v
 | none_ size=>exact .none_ size
 | empty size a=>exact .empty size a
 | row size b off c rows us hl hc hn hm hb hlt hcell hr ih=>exact .row size b off c rows us hl hc hn hm (hP b hb hlt) hcell ih
theorem RdP.rd' (h:RdP w P t v):Rd w w.heap.size t v:=h.rd λ_ _ h=>h
theorem Rd.rdP {B:Nat} (h:Rd w B t v)(hB:B<=w.heap.size):RdP w (λb=>b<B) t v:=by
 induction h with
 | leaf v=>exact .leaf v
 | none_ size=>exact .none_ size
 | empty size a=>exact .empty size a
 | row size b off c rows us hl hc hn hm hb hcell hr ih=>exact .row size b off c rows us hl hc hn hm hb (by omega) hcell ih
theorem RdP.leaf_inv {u:Value} (h:RdP w P (.leaf u) v):v=u:=by cases h;rfl
end
theorem aM {w:World} {b o:Nat} (u:Value):Upd w (w.setCell ⟨b,o,none⟩ u) (λk=>k=b):=(Upd.refl w _).setCell _ _ (.inl rfl)
def NbP (M:Nat->Prop)(base:Nat)(b:Nat):Prop:=M b\/base<=b
def bC (w:World)(M:Nat->Prop)(base:Nat)(e:TypeId)(size:Nat)(v:Value)(trs:List (List Tr)):Prop:=
 ∃rows:List (List Value),Own w base e size v rows/\rows.length=trs.length/\(∀r∈trs,r.length=size)/\
  ∀k (h:k<trs.length) (h2:k<rows.length) j (h':j<trs[k].length) (h3:j<rows[k].length),RdP w (λb=>NbP M base b/\v.ownBlock≠some b) trs[k][j] rows[k][j]
section
variable {w w':World} {M:Nat->Prop} {base size:Nat} {e:TypeId} {v:Value} {trs:List (List Tr)}
theorem bC.nil (w:World)(M:Nat->Prop)(base:Nat)(e:TypeId)(size:Nat):bC w M base e size (.slice none 0 0) []:=⟨[],Own.nil _ _ _ _,rfl,by simp,λk h=>by simp at h⟩
theorem bC.form (h:bC w M base e size v trs):∃A c,v=.slice A trs.length c/\trs.length<=c/\c<=maxLen:=by
 obtain⟨rows,ho,hl,_⟩:=h;obtain⟨A,c,h1,h2,h3⟩:=ho.form;rw[hl]at h1 h2;exact⟨A,c,h1,h2,h3⟩
theorem bC.lt (h:bC w M base e size v trs):∀g,v.ownBlock=some g->base<=g/\g<w.heap.size:=by
 obtain⟨rows,ho,_⟩:=h;exact ho.lt
theorem bC.upd {F:Nat->Prop} (h:bC w M base e size v trs)(hu:Upd w w' F)(hF:∀b,NbP M base b->b<w.heap.size->¬F b):bC w' M base e size v trs:=by
 obtain⟨rows,ho,hl,hr,hc⟩:=h;exact⟨rows,ho.upd hu (λg hg hf=>hF g (.inr (ho.lt g hg).1) (ho.lt g hg).2 hf),hl,hr,λk h1 h2 j h3 h4=>(hc k h1 h2 j h3 h4).upd hu λb hb hlt=>hF b hb.1 hlt⟩
theorem bC.low (h:bC w M base e size v trs)(hb:Below w.heap.size w w'):bC w' M base e size v trs:=h.upd (Upd.low hb (λ_=>False)) (by simp)
theorem bC.rd (h:bC w M base e size v trs)(hn:trs.length<=140737488351232):RdP w (NbP M base) (.sl size trs) v:=by
 obtain⟨rows,ho,hl,hr,hc⟩:=h;have hlt:=ho.lt;rcases ho.1.2 with⟨rfl,h0⟩ | ⟨g,cap,cur,hv,hb,hg,hnc,hcm,hcs,htake⟩
 . have:trs=[]:=List.eq_nil_of_length_eq_zero (by omega);subst this;exact .none_ _
 have hown:v.ownBlock=some g:=by rw[hv];rfl
 have:=RdP.row (w:=w) (P:=NbP M base) size g 0 cap trs (λk j=>((rows[k]?.getD [])[j]?).getD undef) hr (by omega) hn hcm (.inr hb) (hlt g hown).2
  (by
   intro k j hk hj;obtain⟨g',c',hv',_,_,hc',_⟩:=ho.cell (k:=k) (j:=j) (by omega) hj;rw[hv]at hv';injection hv' with hA _ _
   injection hA with hA
   injection hA with hA _ _
   subst hA;rw[Nat.zero_add,hc'];have hk':k<rows.length:=by omega
   have hjl:j<rows[k].length:=by rw[ho.2 _ (List.getElem_mem hk')];exact hj
   simp[hk',hjl])
  (by
   intro k hk j hj;have hk':k<rows.length:=by omega
   have hj':j<rows[k].length:=by rw[ho.2 _ (List.getElem_mem hk'),<-hr _ (List.getElem_mem hk)];exact hj
   have h2:=(hc k hk hk' j hj hj').more (P':=NbP M base) λb hb _=>hb.1
   have:((rows[k]?.getD [])[j]?).getD undef=rows[k][j]:=by simp[hk',hj']
   rw[this];exact h2)
 rw[hv,hl];exact this
end
section
variable {P:Program} (w:World)
theorem cK {ops:Array Oper} {rest:List Oper} {o:Oper} {a:Act} {Q:Exit->Act->World->Prop} (hgd:o.guard=none)(s x:Operand)(t:TypeId)
 (ho:o.op=.call {callee:=.builtin .append,args:= #[s,x],argTypes:= #[t,t]})
 {e:TypeId} {size bytes:Nat} (hT:SliceTy P t e size bytes)
 {M:Nat->Prop} {base:Nat} {v:Value} {trs:List (List Tr)} (hs:a.eval s=v) (hown:bC w M base e size v trs)
 {g:Nat} {cells:Array Value} {te:TypeId} (hx:a.eval x=.slice (some ⟨g,0,none⟩) 1 1) (hg:w.heap[g]? =some (.cells cells te (0,0))) (hcs:cells.size=size) (h1:∀u∈cells.toList,u.oneCell'=true)
 (hbytes:(trs.length+1)*bytes<=140737488355328) (h63:trs.length+1<=maxLen) (hbase:base<=w.heap.size)
 (r:List Tr) (hrl:r.length=size) (hr:∀j (h:j<r.length) (h':j<cells.toList.length),RdP w (λb=>NbP M base b/\v.ownBlock≠some b) r[j] cells.toList[j])
 (h:∀v' w',bC w' M base e size v' (trs++[r])->Upd w w' (λk=>v.ownBlock=some k)->(v'.ownBlock=v.ownBlock\/v'.ownBlock=some w.heap.size)->wpList P ops Q rest (a.put o.dst v') w'):
 wpList P ops Q (o::rest) a w:=by
 obtain⟨rows,ho',hl,hlr,hc⟩:=hown;refine bN w hgd s x t ho hT hs ho' hx hg hcs h1 (by rw[hl];exact hbytes) (by rw[hl];exact h63) hbase ?_;intro v' w' hown' hup hat;refine h v' w' ⟨_,hown',by simp[hl],?_,?_⟩ hup hat
 . intro r' hr';rcases List.mem_append.1 hr' with h | h
   . exact hlr _ h
   rw[List.mem_singleton.1 h];exact hrl
 have key:∀{t:Tr} {u:Value},RdP w (λb=>NbP M base b/\v.ownBlock≠some b) t u->RdP w' (λb=>NbP M base b/\v'.ownBlock≠some b) t u:=λhh=>
  ((
   hh.upd hup (λb hb _=>hb.2)).keep (Nat.le_refl _) (λ_ _ _=>rfl)) |> λh2=>by
   have h3:=hh.more (P':=λb=>(NbP M base b/\v.ownBlock≠some b)/\v'.ownBlock≠some b) (λb hb hlt=>⟨hb,by
    rcases hat with h4 | h4
    . rw[h4];exact hb.2
    rw[h4];intro e;injection e with e;omega⟩)
   exact(h3.upd hup (λb hb _=>hb.1.2)).more λb hb _=>⟨hb.1.1,hb.2⟩
 intro k hk hk2 j hj hj2;by_cases hkl:k<trs.length
 . have hkr:k<rows.length:=by omega
   have e1:(trs++[r])[k]=trs[k]:=List.getElem_append_left hkl;have e2:(rows++[cells.toList])[k]=rows[k]:=List.getElem_append_left hkr;have:=key (hc k hkl hkr j (by rw[e1]at hj;exact hj) (by rw[e2]at hj2;exact hj2));simpa only[e1,e2]using this
 have hke:k=trs.length:=by simp at hk;omega
 subst hke;have e1:(trs++[r])[trs.length]=r:=by simp
 have e2:(rows++[cells.toList])[trs.length]=cells.toList:=by simp[<-hl]
 have:=key (hr j (by rw[e1]at hj;exact hj) (by rw[e2]at hj2;exact hj2));simpa only[e1,e2]using this
end
theorem RdP.one {w:World} {P:Nat->Prop} {t:Tr} {v:Value} (h:RdP w P t v)(hl:∀y,t=.leaf y->y.oneCell'=true):v.oneCell'=true:=by
 cases h with
 | leaf v=>exact hl v rfl
 | none_ size=>rfl
 | empty size a=>rfl
 | row size b off c rows us hl hc hn hm hb hlt hcell hr=>rfl
theorem bC.empty {w:World} {M:Nat->Prop} {base g:Nat} {e:TypeId} {size:Nat} (hg:w.heap[g]? =some (.cells #[] e (0,0)))(hb:base<=g):bC w M base e size (.slice (some ⟨g,0,none⟩) 0 0) []:=
 ⟨[],⟨⟨by simp,.inr ⟨g,0,#[],rfl,hb,hg,Nat.le_refl _,Nat.zero_le _,by simp,by simp⟩⟩,by simp⟩,rfl,by simp,λk h=>by simp at h⟩
section
variable {P:Program} (w:World)
theorem fC {ops:Array Oper} {rest:List Oper} {o:Oper} {a:Act} {Q:Exit->Act->World->Prop} (hgd:o.guard=none)(s x:Operand)(t:TypeId)
 (ho:o.op=.call {callee:=.builtin .append,args:= #[s,x],argTypes:= #[t,t]})
 {e:TypeId} {size bytes:Nat} (hT:SliceTy P t e size bytes)
 {M:Nat->Prop} {base:Nat} {v:Value} {trs:List (List Tr)} (hs:a.eval s=v) (hown:bC w M base e size v trs)
 {u:Value} {news:List (List Tr)} (hx:a.eval x=u) (hu:RdP w (λb=>NbP M base b/\v.ownBlock≠some b) (.sl size news) u) (hleaf:∀r∈news,∀t∈r,∀y,t=Tr.leaf y->y.oneCell'=true)
 (hbytes:(trs.length+news.length)*bytes<=140737488355328) (h63:trs.length+news.length<=maxLen) (hbase:base<=w.heap.size)
 (h:∀v' w',bC w' M base e size v' (trs++news)->Upd w w' (λk=>v.ownBlock=some k)->(v'.ownBlock=v.ownBlock\/v'.ownBlock=some w.heap.size)->wpList P ops Q rest (a.put o.dst v') w'):
 wpList P ops Q (o::rest) a w:=by
 have hown0:=hown;obtain⟨rows,ho',hl,hlr,hc⟩:=hown;obtain⟨i,z,hi,hz,hsize,hby,hzs⟩:=hT.hi;-- what is appended,cell by cell
 have hnews:(∃c,u=.slice none 0 c/\news=[])\/∃(ad:Addr) (c:Nat) (us:Nat->Nat->Value),u=.slice (some ad) news.length c/\(∀r∈news,r.length=size)/\(∀k j,k<news.length->j<size->w.cell? (ad.add (k*size+j))=some (us k j))/\
  (∀k (h:k<news.length) j (h':j<news[k].length),RdP w (λb=>NbP M base b/\v.ownBlock≠some b) news[k][j] (us k j)):=by
  cases hu with
  | none_=>exact .inl ⟨0,rfl,rfl⟩
  | empty _ ad=>exact .inr ⟨ad,0,λ_ _=>undef,rfl,by simp,λk j hk=>by simp at hk,λk hk=>by simp at hk⟩
  | row _ b off c _ us hl hc hn hm hb hlt hcell hr=>
   refine .inr ⟨⟨b,off,none⟩,c,us,rfl,hl,λk j hk hj=>?_,hr⟩;have:=hcell k j hk hj;have e:(⟨b,off,none⟩:Addr).add (k*size+j)=⟨b,off+k*size+j,none⟩:=by
    rw[Nat.add_assoc];unfold Addr.add;split
    . rename_i h0;rw[h0];rfl
    rfl
   rw[e];exact this
 rcases hnews with⟨c,rfl,rfl⟩ | ⟨ad,c,us,rfl,hnl,hcell,hrd⟩
 . obtain⟨A,cv,hv,hcv,_⟩:=hown0.form;refine wpList_plain hgd λK hK=>?_
   have hrun:=run_append_nothing (P:=P) w t t o.type e i hT.ht hi A trs.length cv hcv (.slice none 0 c) (Src.ofNil w hT.ht c);unfold Oper.wp execOp;simp only[ho,resolve,invoke,builtin,Sem.run_bind,Sem.run_pure,Result.andThen_ok,List.map_toArray,List.map_cons,List.map_nil,hs,hx,hv,hrun];rw[<-hv];exact hK _ _ (h v w (by rw[List.append_nil];exact hown0) (Upd.refl _ _) (.inl rfl))
 let L:List (List Value):=(List.range news.length).map λk=>(List.range size).map λj=>us k j
 have hLl:L.length=news.length:=by simp[L]
 have hLr:∀r∈L,r.length=size:=by
  intro r hr;obtain⟨k,_,rfl⟩:=List.mem_map.1 hr;simp
 have hLat:∀k (h:k<L.length) j (h':j<L[k].length),L[k][j]=us k j:=by
  intro k h j h';simp[L]
 have hflat:∀j u,L.flatten[j]? =some u->∃k i,j=k*size+i/\k<news.length/\i<size/\u=us k i:=by
  intro j u hj;have hjl:=(List.getElem?_eq_some_iff.1 hj).1;have hlen:L.flatten.length=news.length*size:=by
   rw[List.length_flatten];have:L.map List.length=List.replicate news.length size:=by
    rw[List.eq_replicate_iff];exact⟨by simp[hLl],λx hx=>by obtain⟨r,hr,rfl⟩:=List.mem_map.1 hx;exact hLr r hr⟩
   rw[this,List.sum_replicate_nat]
  rw[hlen]at hjl;have hs0:=hT.hs;have hk:j / size<news.length:=(Nat.div_lt_iff_lt_mul hs0).2 hjl;have hi':j % size<size:=Nat.mod_lt _ hs0;have hdm:j=(j / size)*size+j % size:=by rw[Nat.mul_comm];exact(Nat.div_add_mod j size).symm
  have hat:=qF L size hLr (j / size) (j % size) (by rw[hLl];exact hk) hi';rw[<-hdm,hj]at hat;injection hat with hat
  exact⟨j / size,j % size,hdm,hk,hi',by rw[hat];exact hLat _ _ _ _⟩
 refine wpList_append_own_at (P:=P) w hgd s x t ho base e i z size bytes hT.ht hi hz hsize hby hzs hT.hs v rows.length rows.flatten hs ho'.1 ad news.length c L.flatten hx ?_ ?_ ?_ (by rw[hl];exact h63) (by rw[hl];exact hbytes) hbase ?_
 . rw[List.length_flatten];have:L.map List.length=List.replicate news.length size:=by
    rw[List.eq_replicate_iff];exact⟨by simp[hLl],λx hx=>by obtain⟨r,hr,rfl⟩:=List.mem_map.1 hx;exact hLr r hr⟩
   rw[this,List.sum_replicate_nat]
 . intro j u hj;obtain⟨k,i',rfl,hk,hi',rfl⟩:=hflat j u hj;exact hcell k i' hk hi'
 . intro u hu;obtain⟨j,hj,hju⟩:=List.getElem_of_mem hu;obtain⟨k,i',_,hk,hi',rfl⟩:=hflat j u (by rw[List.getElem?_eq_getElem hj,hju]);have hkr:i'<news[k].length:=by rw[hnl _ (List.getElem_mem hk)];exact hi'
   exact(hrd k hk i' hkr).one λy hy=>hleaf _ (List.getElem_mem hk) _ (List.getElem_mem hkr) y hy
 intro v' w' hown' hgr _ hat;have hup:=Upd.grown hgr;refine h v' w' ⟨rows++L,⟨?_,?_⟩,by simp[hl,hLl],?_,?_⟩ hup hat
 . rw[List.length_append,List.flatten_append,hLl];exact hown'
 . intro r hr;rcases List.mem_append.1 hr with h | h
   . exact ho'.2 r h
   exact hLr r h
 . intro r hr;rcases List.mem_append.1 hr with h | h
   . exact hlr r h
   exact hnl r h
 have key:∀{t:Tr} {u:Value},RdP w (λb=>NbP M base b/\v.ownBlock≠some b) t u->RdP w' (λb=>NbP M base b/\v'.ownBlock≠some b) t u:=λhh=>by
  have h3:=hh.more (P':=λb=>(NbP M base b/\v.ownBlock≠some b)/\v'.ownBlock≠some b) (λb hb hlt=>⟨hb,by
   rcases hat with h4 | h4
   . rw[h4];exact hb.2
   rw[h4];intro e;injection e with e;omega⟩)
  exact(h3.upd hup (λb hb _=>hb.1.2)).more λb hb _=>⟨hb.1.1,hb.2⟩
 intro k hk hk2 j hj hj2;by_cases hkl:k<trs.length
 . have hkr:k<rows.length:=by omega
   have e1:(trs++news)[k]=trs[k]:=List.getElem_append_left hkl;have e2:(rows++L)[k]=rows[k]:=List.getElem_append_left hkr;have:=key (hc k hkl hkr j (by rw[e1]at hj;exact hj) (by rw[e2]at hj2;exact hj2));simpa only[e1,e2]using this
 have hkn:k-trs.length<news.length:=by simp at hk;omega
 have e1:(trs++news)[k]=news[k-trs.length]:=List.getElem_append_right (by omega);have e2:(rows++L)[k]=L[k-trs.length]'(by omega):=by
  rw[List.getElem_append_right (by omega)];simp only[hl]
 have hj':j<news[k-trs.length].length:=by rw[e1]at hj;exact hj
 have hjL:j<(L[k-trs.length]'(by omega)).length:=by rw[e2]at hj2;exact hj2
 have h5:=hrd (k-trs.length) hkn j hj';rw[<-hLat (k-trs.length) (by omega) j hjL]at h5;have:=key h5;simpa only[e1,e2]using this
end
def aL (b:Nat)(t:TypeId)(x y:Value)(w:World):Prop:=w.heap[b]? =some (.cells #[x,y] t (0,0))
theorem aL.lt {b:Nat} {t:TypeId} {x y:Value} {w:World} (h:aL b t x y w):b<w.heap.size:=(Array.getElem?_eq_some_iff.1 h).1
theorem aL.cells {b:Nat} {t:TypeId} {x y:Value} {w:World} (h:aL b t x y w):w.cell? ⟨b,0,none⟩=some x/\w.cell? ⟨b,1,none⟩=some y/\(∀o,w.frozen? ⟨b,o,none⟩=false):=
 ⟨by rw[cell_of_row w b 0 _ _ _ h];rfl,by rw[cell_of_row w b 1 _ _ _ h];rfl,λo=>frozen_of_row w b o _ _ h⟩
theorem aL.low {b:Nat} {t:TypeId} {x y:Value} {w w':World} (h:aL b t x y w)(hb:Below w.heap.size w w'):aL b t x y w':=(hb.block b h.lt).trans h
theorem aL.upd {b:Nat} {t:TypeId} {x y:Value} {w w':World} {F:Nat->Prop} (h:aL b t x y w)(hu:Upd w w' F)(hF:¬F b):aL b t x y w':=(hu.block b h.lt hF).trans h
theorem aL.put0 {b:Nat} {t:TypeId} {x y:Value} {w:World} (h:aL b t x y w)(u:Value):aL b t u y (w.setCell ⟨b,0,none⟩ u):=by
 unfold aL at h ⊢;have:=heap_setCell_same w b 0 _ _ u h;simpa using this
theorem aL.put1 {b:Nat} {t:TypeId} {x y:Value} {w:World} (h:aL b t x y w)(u:Value):aL b t x u (w.setCell ⟨b,1,none⟩ u):=by
 unfold aL at h ⊢;have:=heap_setCell_same w b 1 _ _ u h;simpa using this
theorem aL.set {b:Nat} {t:TypeId} {x y:Value} {w:World} (h:aL b t x y w)(u v:Value):aL b t u v ((w.setCell ⟨b,0,none⟩ u).setCell ⟨b,1,none⟩ v)/\Upd w ((w.setCell ⟨b,0,none⟩ u).setCell ⟨b,1,none⟩ v) (λk=>k=b):=
 And.intro ((h.put0 u).put1 v) ((aM (w:=w) (b:=b) (o:=0) u).trans (aM (w:=w.setCell ⟨b,0,none⟩ u) (b:=b) (o:=1) v) (λ_ h=>.inl h))
structure BxS where
 la:Bool
 ls:Bool
 x:Value
 u0:Value
 u1:Value
def cP (W:World)(t:TypeId)(z0 z1:Value)(L:List BxS)(w:World):Prop:=
 Below W.heap.size W w/\(∀s∈L,s.ls=true->s.la=true)/\
  ∃bs:List Nat,bs.length=L.length/\(∀p (h:p<L.length) (h2:p<bs.length),L[p].la=true->L[p].x=.pointer (some ⟨bs[p],0,none⟩)/\W.heap.size<=bs[p]/\aL bs[p] t (if L[p].ls then L[p].u0 else z0) (if L[p].ls then L[p].u1 else z1) w)/\
   (∀p q (h:p<L.length) (h':q<L.length) (h2:p<bs.length) (h3:q<bs.length),p≠q->L[p].la=true->L[q].la=true->bs[p]≠bs[q])
theorem cP.start {W w:World} {t:TypeId} {z0 z1:Value} {L:List BxS} (hb:Below W.heap.size W w)(hL:∀s∈L,s.la=false/\s.ls=false):cP W t z0 z1 L w:=by
 refine⟨hb,λs hs h=>?_,List.replicate L.length 0,by simp,λp h h2 hla=>?_,λp q h h' h2 h3 hpq hla=>?_⟩
 . rw[(hL s hs).2]at h;cases h
 . rw[(hL _ (List.getElem_mem h)).1]at hla;cases hla
 rw[(hL _ (List.getElem_mem h)).1]at hla;cases hla
theorem cP.step {W w w':World} {t:TypeId} {z0 z1:Value} {L:List BxS} (h:cP W t z0 z1 L w)(hb:Below w.heap.size w w'):cP W t z0 z1 L w':=by
 obtain⟨h1,h2,bs,h3,h4,h5⟩:=h;exact⟨h1.trans (hb.mono h1.size),h2,bs,h3,λp hp hp2 hla=>⟨(h4 p hp hp2 hla).1,(h4 p hp hp2 hla).2.1,(h4 p hp hp2 hla).2.2.low hb⟩,h5⟩
theorem cP.lay {W w:World} {t:TypeId} {z0 z1:Value} {L:List BxS} (h:cP W t z0 z1 L w)(p:Nat)(hp:p<L.length)(hla:L[p].la=false):
 cP W t z0 z1 (L.set p ⟨true,L[p].ls,.pointer (some ⟨w.heap.size,0,none⟩),L[p].u0,L[p].u1⟩) (w.alloc (.cells #[z0,z1] t)):=by
 obtain⟨h1,h2,bs,h3,h4,h5⟩:=h;have hls:L[p].ls=false:=by
  cases hh:L[p].ls with
  | false=>rfl
  | true=>rw[h2 _ (List.getElem_mem hp) hh]at hla;cases hla
 have hbw:=aD w (.cells #[z0,z1] t);refine⟨h1.trans (hbw.mono h1.size),?_,bs.set p w.heap.size,by simp[h3],?_,?_⟩
 . intro s hs;rcases List.mem_or_eq_of_mem_set hs with h | rfl
   . exact h2 s h
   intro _;rfl
 . intro q hq hq2 hlq;rw[List.length_set]at hq hq2;by_cases hpq:p=q
   . subst hpq;simp only[List.getElem_set_self,hls,Bool.false_eq_true,if_false];exact⟨trivial,h1.size,heap_alloc_new w _⟩
   simp only[List.getElem_set_ne hpq]at hlq ⊢;obtain⟨a,b,c⟩:=h4 q hq hq2 hlq;exact⟨a,b,c.low hbw⟩
 intro q r hq hr hq2 hr2 hqr hlq hlr;rw[List.length_set]at hq hr hq2 hr2;by_cases hpq:p=q
 . subst hpq;have hpr:p≠r:=hqr;simp only[List.getElem_set_self,List.getElem_set_ne hpr]at hlr ⊢;have:=(h4 r hr hr2 hlr).2.2.lt;omega
 by_cases hpr:p=r
 . subst hpr;simp only[List.getElem_set_self,List.getElem_set_ne hpq]at hlq ⊢;have:=(h4 q hq hq2 hlq).2.2.lt;omega
 simp only[List.getElem_set_ne hpq,List.getElem_set_ne hpr]at hlq hlr ⊢;exact h5 q r hq hr hq2 hr2 hqr hlq hlr
theorem cP.fill {W w:World} {t:TypeId} {z0 z1:Value} {L:List BxS} (h:cP W t z0 z1 L w)(p:Nat)(hp:p<L.length)(hla:L[p].la=true)(hls:L[p].ls=false):
 ∃b,L[p].x=.pointer (some ⟨b,0,none⟩)/\aL b t z0 z1 w/\cP W t z0 z1 (L.set p ⟨true,true,L[p].x,L[p].u0,L[p].u1⟩) ((w.setCell ⟨b,0,none⟩ L[p].u0).setCell ⟨b,1,none⟩ L[p].u1):=by
 obtain⟨h1,h2,bs,h3,h4,h5⟩:=h;have hp2:p<bs.length:=by omega
 obtain⟨hx,hbz,hbx⟩:=h4 p hp hp2 hla;rw[hls]at hbx;simp only[Bool.false_eq_true,if_false]at hbx;obtain⟨hs1,hs2⟩:=hbx.set L[p].u0 L[p].u1;refine⟨bs[p],hx,hbx,h1.trans (hs2.toLow h1.size λk hk=>by subst hk;exact hbz) |> λh=>⟨h,?_,bs,by simp[h3],?_,?_⟩⟩
 . intro s hs;rcases List.mem_or_eq_of_mem_set hs with h | rfl
   . exact h2 s h
   intro _;rfl
 . intro q hq hq2 hlq;rw[List.length_set]at hq;by_cases hpq:p=q
   . subst hpq;simp only[List.getElem_set_self,if_true];exact⟨hx,hbz,hs1⟩
   simp only[List.getElem_set_ne hpq]at hlq ⊢;obtain⟨a,b,c⟩:=h4 q hq hq2 hlq;exact⟨a,b,c.upd hs2 (λe=>h5 p q hp hq hp2 hq2 hpq hla hlq e.symm)⟩
 intro q r hq hr hq2 hr2 hqr hlq hlr;rw[List.length_set]at hq hr;refine h5 q r hq hr hq2 hr2 hqr ?_ ?_
 . by_cases hpq:p=q
   . subst hpq;exact hla
   simpa only[List.getElem_set_ne hpq]using hlq
 by_cases hpr:p=r
 . subst hpr;exact hla
 simpa only[List.getElem_set_ne hpr]using hlr
theorem cP.one {W w:World} {t:TypeId} {z0 z1:Value} {L:List BxS} (h:cP W t z0 z1 L w):∃bs:List Nat,bs.length=L.length/\(∀p (h:p<L.length) (h2:p<bs.length),L[p].la=true->L[p].x=.pointer (some ⟨bs[p],0,none⟩)/\W.heap.size<=bs[p]/\aL bs[p] t (if L[p].ls then L[p].u0 else z0) (if L[p].ls then L[p].u1 else z1) w)/\
 (∀p q (h:p<L.length) (h':q<L.length) (h2:p<bs.length) (h3:q<bs.length),p≠q->L[p].la=true->L[q].la=true->bs[p]≠bs[q]):=h.2.2
theorem cP.out2 {W w:World} {t:TypeId} {z0 z1 x1 u1 v1 x2 u2 v2:Value} (h:cP W t z0 z1 [⟨true,true,x1,u1,v1⟩,⟨true,true,x2,u2,v2⟩] w):
 Below W.heap.size W w/\∃b1 b2,x1=.pointer (some ⟨b1,0,none⟩)/\x2=.pointer (some ⟨b2,0,none⟩)/\W.heap.size<=b1/\W.heap.size<=b2/\aL b1 t u1 v1 w/\aL b2 t u2 v2 w/\b1≠b2:=by
 refine⟨h.1,?_⟩;obtain⟨bs,h3,h4,h5⟩:=h.one;match bs,h3 with
 | [b1,b2],_=>
  obtain⟨a1,a2,a3⟩:=h4 0 (by simp) (by simp) rfl;obtain⟨c1,c2,c3⟩:=h4 1 (by simp) (by simp) rfl;exact⟨b1,b2,a1,c1,a2,c2,a3,c3,h5 0 1 (by simp) (by simp) (by simp) (by simp) (by decide) rfl rfl⟩
theorem cP.out4 {W w:World} {t:TypeId} {z0 z1 x1 u1 v1 x2 u2 v2 x3 u3 v3 x4 u4 v4:Value} (h:cP W t z0 z1 [⟨true,true,x1,u1,v1⟩,⟨true,true,x2,u2,v2⟩,⟨true,true,x3,u3,v3⟩,⟨true,true,x4,u4,v4⟩] w):
 Below W.heap.size W w/\∃b1 b2 b3 b4,x1=.pointer (some ⟨b1,0,none⟩)/\x2=.pointer (some ⟨b2,0,none⟩)/\x3=.pointer (some ⟨b3,0,none⟩)/\x4=.pointer (some ⟨b4,0,none⟩)/\
  W.heap.size<=b1/\W.heap.size<=b2/\W.heap.size<=b3/\W.heap.size<=b4/\aL b1 t u1 v1 w/\aL b2 t u2 v2 w/\aL b3 t u3 v3 w/\aL b4 t u4 v4 w:=by
 refine⟨h.1,?_⟩;obtain⟨bs,h3,h4,h5⟩:=h.one;match bs,h3 with
 | [b1,b2,b3,b4],_=>
  obtain⟨a1,a2,a3⟩:=h4 0 (by simp) (by simp) rfl;obtain⟨c1,c2,c3⟩:=h4 1 (by simp) (by simp) rfl;obtain⟨d1,d2,d3⟩:=h4 2 (by simp) (by simp) rfl;obtain⟨e1,e2,e3⟩:=h4 3 (by simp) (by simp) rfl;exact⟨b1,b2,b3,b4,a1,c1,d1,e1,a2,c2,d2,e2,a3,c3,d3,e3⟩
theorem bF {P:Program} {Q:Exit->Act->World->Prop} {o:Oper} {K:Act->World->Prop} {a:Act} {w w':World} (h:(execOp a.eval o).run P w=.ok .skip w')(hk:K (a.put o.dst undef) w'):o.wp P a w K Q:=by
 unfold Oper.wp;rw[h];exact hk
def aM5 (b4 b5:Nat)(t:TypeId)(z0 z1 x0 x1 y0 y1:Value)(W:World)(l4 l5:Bool)(w:World):Prop:=
 aL b4 t (if l4 then x0 else z0) (if l4 then x1 else z1) w/\aL b5 t (if l5 then y0 else z0) (if l5 then y1 else z1) w/\Upd W w (λk=>k=b4\/k=b5)
theorem nB (b r:Bool)(f1 f2:Int)(n1 n2:Nat)(A1 A2:Option Addr)(c1 c2:Nat)(w:World):
 Calls Try.prog 70 #[.agg #[.bool b,.int .i64 f1,.slice A1 n1 c1,.int .i64 f2,.slice A2 n2 c2],.bool r] w
  (λe w'=>e=.returned (if r then .tuple #[.agg #[.int .i64 f2,.slice A2 n2 c2],.agg #[.int .i64 f1,.slice A1 n1 c1]]else .tuple #[.agg #[.int .i64 f1,.slice A1 n1 c1],.agg #[.int .i64 f2,.slice A2 n2 c2]])/\Below w.heap.size w w'):=by
 obtain⟨hx1,hx2,hx3,hB3,hz3⟩:=fW w (.cells #[.bool b,.int .i64 f1,.slice A1 n1 c1,.int .i64 f2,.slice A2 n2 c2] 53) (.cells #[.int .i64 0,.slice none 0 0] 87) (.cells #[.int .i64 0,.slice none 0 0] 87);cases r with
 | true=>
  go_enter Try.func70,Try.ntmps70;go_upto_region 2 with fail
  generalize ((w.alloc (.cells #[.bool b,.int .i64 f1,.slice A1 n1 c1,.int .i64 f2,.slice A2 n2 c2] 53)).alloc (.cells #[.int .i64 0,.slice none 0 0] 87)).alloc (.cells #[.int .i64 0,.slice none 0 0] 87)=w3 at hx1 hx2 hx3 hB3 hz3 ⊢;have HB3:=Lh hB3;have Hx1:=Lh hx1;have Hx2:=Lh hx2;have Hx3:=Lh hx3;clear hx1 hx2 hx3 hB3;refine eO (vals:=λk=>match k with | 0=>(.pointer (some ⟨w.heap.size,3,none⟩):Value) | 1=>(.agg #[.int .i64 f2,.slice A2 n2 c2]:Value) | 2=>(.pointer (some ⟨w.heap.size,1,none⟩):Value) | 3=>(.agg #[.int .i64 f1,.slice A1 n1 c1]:Value) | 4=>(undef:Value) | 5=>(undef:Value) | _=>undef) (D:=λk=>match k with | 0=>some 7 | 1=>some 8 | 2=>some 9 | 3=>some 10 | _=>none) (J:=λaA w'=>aM5 (w.heap.size+1) (w.heap.size+1+1) 87 (.int .i64 0) (.slice none 0 0) (.int .i64 f2) (.slice A2 n2 c2) (.int .i64 f1) (.slice A1 n1 c1) w3 (aA.getD 4 false) (aA.getD 5 false) w') (by kernel_rfl) ?hs ?hd ?h0 ?step ?fin
  case hs=>
   intro i o ho;have hi:i<6:=(Array.getElem?_eq_some_iff.1 ho).1;rcases lt6 hi with rfl | rfl | rfl | rfl | rfl | rfl
   all_goals obtain rfl:=Option.some.inj (show some _=some o from ho)
   all_goals exact⟨by simp[Region.binds],rfl,λs hs=>by first | (cases hs;done) | (obtain rfl:=Option.some.inj hs;show _<15;decide)⟩
  case hd=>
   intro k k' s hk hk' h h';have hk:k<6:=hk;have hk':k'<6:=hk';refine dL (D:=[some 7,some 8,some 9,some 10,none,none]) (by decide) (k:=k) (k':=k') (s:=s) ?_ ?_
   . rcases lt6 hk with rfl | rfl | rfl | rfl | rfl | rfl
     all_goals exact congrArg some h
   rcases lt6 hk' with rfl | rfl | rfl | rfl | rfl | rfl
   all_goals exact congrArg some h'
  case h0=>
   exact⟨Hx2.out,Hx3.out,(Upd.refl w3 _).drewN 1⟩
  case step=>
   intro aA a w' i o hz hI hJ ho hl hdep;have hz:aA.size=6:=hz;have hi:i<6:=(Array.getElem?_eq_some_iff.1 ho).1;have kk:=λo=>cell_of_row w' w.heap.size o _ _ _ ((hJ.2.2.block w.heap.size (by omega) (by omega)).trans Hx1.out)
   have k1:=kk 1;have k2:=kk 2;have k3:=kk 3;have k4:=kk 4;simp only[List.getElem?_toArray,List.getElem?_cons_zero,List.getElem?_cons_succ]at k1 k2 k3 k4;rcases lt6 hi with rfl | rfl | rfl | rfl | rfl | rfl
   all_goals obtain rfl:=Option.some.inj (show some _=some o from ho)
   . have e2:(a.tmps[2]?).getD undef=(.pointer (some ⟨w.heap.size,0,none⟩):Value):=gD (hI.fix 2 (by decide));have hK:=hJ;rw[<-aB (l:=aA) (i:=0) (k:=4) (by decide)]at hK;rw[<-aB (l:=aA) (i:=0) (k:=5) (by decide)]at hK;exact aF ho rfl (aE (v:=.pointer (some ⟨w.heap.size,3,none⟩)) (w':=w') (by simp[execOp,e2,go_sem]) ⟨rfl,hK⟩)
   . have e7:(a.tmps[7]?).getD undef=(.pointer (some ⟨w.heap.size,3,none⟩):Value):=gD (hI.done 0 7 (by simp) rfl (hdep ⟨0,.data⟩ (by simp) rfl));have hK:=hJ;rw[<-aB (l:=aA) (i:=1) (k:=4) (by decide)]at hK;rw[<-aB (l:=aA) (i:=1) (k:=5) (by decide)]at hK;exact aF ho rfl (aE (v:=.agg #[.int .i64 f2,.slice A2 n2 c2]) (w':=w') (by simp[execOp,e7,k3,k4,go_sem]) ⟨rfl,hK⟩)
   . have e2:(a.tmps[2]?).getD undef=(.pointer (some ⟨w.heap.size,0,none⟩):Value):=gD (hI.fix 2 (by decide));have hK:=hJ;rw[<-aB (l:=aA) (i:=2) (k:=4) (by decide)]at hK;rw[<-aB (l:=aA) (i:=2) (k:=5) (by decide)]at hK;exact aF ho rfl (aE (v:=.pointer (some ⟨w.heap.size,1,none⟩)) (w':=w') (by simp[execOp,e2,go_sem]) ⟨rfl,hK⟩)
   . have e9:(a.tmps[9]?).getD undef=(.pointer (some ⟨w.heap.size,1,none⟩):Value):=gD (hI.done 2 9 (by simp) rfl (hdep ⟨2,.data⟩ (by simp) rfl));have hK:=hJ;rw[<-aB (l:=aA) (i:=3) (k:=4) (by decide)]at hK;rw[<-aB (l:=aA) (i:=3) (k:=5) (by decide)]at hK;exact aF ho rfl (aE (v:=.agg #[.int .i64 f1,.slice A1 n1 c1]) (w':=w') (by simp[execOp,e9,k1,k2,go_sem]) ⟨rfl,hK⟩)
   . have e4:(a.tmps[4]?).getD undef=(.pointer (some ⟨w.heap.size+1,0,none⟩):Value):=gD (hI.fix 4 (by decide));have e8:(a.tmps[8]?).getD undef=(.agg #[.int .i64 f2,.slice A2 n2 c2]:Value):=gD (hI.done 1 8 (by simp) rfl (hdep ⟨1,.data⟩ (by simp) rfl));obtain⟨hj1,hj2,hj3⟩:=hJ;obtain⟨m0,m1,m2⟩:=hj1.cells;obtain⟨hs1,hs2⟩:=hj1.set (.int .i64 f2) (.slice A2 n2 c2);refine aF ho rfl (bF (w':=(w'.setCell ⟨w.heap.size+1,0,none⟩ (.int .i64 f2)).setCell ⟨w.heap.size+1,1,none⟩ (.slice A2 n2 c2)) (by simp[execOp,e4,e8,m0,m1,m2,go_sem]) ⟨rfl,?_,?_,?_⟩)
     . rw[aJ (by omega)];exact hs1
     . rw[aB (by decide)];exact hj2.upd hs2 (by omega)
     exact cC hj3 (hs2.more λi hi=>.inl (.inl hi))
   have e5:(a.tmps[5]?).getD undef=(.pointer (some ⟨w.heap.size+1+1,0,none⟩):Value):=gD (hI.fix 5 (by decide));have e10:(a.tmps[10]?).getD undef=(.agg #[.int .i64 f1,.slice A1 n1 c1]:Value):=gD (hI.done 3 10 (by simp) rfl (hdep ⟨3,.data⟩ (by simp) rfl));obtain⟨hj1,hj2,hj3⟩:=hJ;obtain⟨m0,m1,m2⟩:=hj2.cells;obtain⟨hs1,hs2⟩:=hj2.set (.int .i64 f1) (.slice A1 n1 c1);refine aF ho rfl (bF (w':=(w'.setCell ⟨w.heap.size+1+1,0,none⟩ (.int .i64 f1)).setCell ⟨w.heap.size+1+1,1,none⟩ (.slice A1 n1 c1)) (by simp[execOp,e5,e10,m0,m1,m2,go_sem]) ⟨rfl,?_,?_,?_⟩)
   . rw[aB (by decide)];exact hj1.upd hs2 (by omega)
   . rw[aJ (by omega)];exact hs1
   exact cC hj3 (hs2.more λi hi=>.inl (.inr hi))
  case fin=>
   intro aA wz hz hall hJ;have hz:aA.size=6:=hz;have hall:∀i,i<6->aA.getD i false=true:=hall;simp only[List.size_toArray,List.length_cons,List.length_nil,Nat.reduceAdd,bI];simp
   rw[hall 4 (by omega),hall 5 (by omega)]at hJ;obtain⟨hj1,hj2,hj3⟩:=hJ;obtain⟨m0,m1,_⟩:=hj1.cells;obtain⟨l0,l1,_⟩:=hj2.cells;simp only[if_true]at m0 m1 l0 l1;go_wp2_with fail;refine bodyPost_ret (v:=.tuple #[.agg #[.int .i64 f2,.slice A2 n2 c2],.agg #[.int .i64 f1,.slice A1 n1 c1]]) (by simp[results,Try.results70,go_sem,m0,m1,l0,l1]) rfl ⟨rfl,?_⟩;exact HB3.out.trans ((hj3.toLow (B:=w.heap.size) (by omega) (by rintro k (rfl | rfl) <;> omega)))
 | false=>
  go_enter Try.func70,Try.ntmps70;go_upto_region 3 with fail
  generalize ((w.alloc (.cells #[.bool b,.int .i64 f1,.slice A1 n1 c1,.int .i64 f2,.slice A2 n2 c2] 53)).alloc (.cells #[.int .i64 0,.slice none 0 0] 87)).alloc (.cells #[.int .i64 0,.slice none 0 0] 87)=w3 at hx1 hx2 hx3 hB3 hz3 ⊢;have HB3:=Lh hB3;have Hx1:=Lh hx1;have Hx2:=Lh hx2;have Hx3:=Lh hx3;clear hx1 hx2 hx3 hB3;refine eO (vals:=λk=>match k with | 0=>(.pointer (some ⟨w.heap.size,1,none⟩):Value) | 1=>(.agg #[.int .i64 f1,.slice A1 n1 c1]:Value) | 2=>(.pointer (some ⟨w.heap.size,3,none⟩):Value) | 3=>(.agg #[.int .i64 f2,.slice A2 n2 c2]:Value) | 4=>(undef:Value) | 5=>(undef:Value) | _=>undef) (D:=λk=>match k with | 0=>some 11 | 1=>some 12 | 2=>some 13 | 3=>some 14 | _=>none) (J:=λaA w'=>aM5 (w.heap.size+1) (w.heap.size+1+1) 87 (.int .i64 0) (.slice none 0 0) (.int .i64 f1) (.slice A1 n1 c1) (.int .i64 f2) (.slice A2 n2 c2) w3 (aA.getD 4 false) (aA.getD 5 false) w') (by kernel_rfl) ?hs ?hd ?h0 ?step ?fin
  case hs=>
   intro i o ho;have hi:i<6:=(Array.getElem?_eq_some_iff.1 ho).1;rcases lt6 hi with rfl | rfl | rfl | rfl | rfl | rfl
   all_goals obtain rfl:=Option.some.inj (show some _=some o from ho)
   all_goals exact⟨by simp[Region.binds],rfl,λs hs=>by first | (cases hs;done) | (obtain rfl:=Option.some.inj hs;show _<15;decide)⟩
  case hd=>
   intro k k' s hk hk' h h';have hk:k<6:=hk;have hk':k'<6:=hk';refine dL (D:=[some 11,some 12,some 13,some 14,none,none]) (by decide) (k:=k) (k':=k') (s:=s) ?_ ?_
   . rcases lt6 hk with rfl | rfl | rfl | rfl | rfl | rfl
     all_goals exact congrArg some h
   rcases lt6 hk' with rfl | rfl | rfl | rfl | rfl | rfl
   all_goals exact congrArg some h'
  case h0=>
   exact⟨Hx2.out,Hx3.out,(Upd.refl w3 _).drewN 1⟩
  case step=>
   intro aA a w' i o hz hI hJ ho hl hdep;have hz:aA.size=6:=hz;have hi:i<6:=(Array.getElem?_eq_some_iff.1 ho).1;have kk:=λo=>cell_of_row w' w.heap.size o _ _ _ ((hJ.2.2.block w.heap.size (by omega) (by omega)).trans Hx1.out)
   have k1:=kk 1;have k2:=kk 2;have k3:=kk 3;have k4:=kk 4;simp only[List.getElem?_toArray,List.getElem?_cons_zero,List.getElem?_cons_succ]at k1 k2 k3 k4;rcases lt6 hi with rfl | rfl | rfl | rfl | rfl | rfl
   all_goals obtain rfl:=Option.some.inj (show some _=some o from ho)
   . have e2:(a.tmps[2]?).getD undef=(.pointer (some ⟨w.heap.size,0,none⟩):Value):=gD (hI.fix 2 (by decide));have hK:=hJ;rw[<-aB (l:=aA) (i:=0) (k:=4) (by decide)]at hK;rw[<-aB (l:=aA) (i:=0) (k:=5) (by decide)]at hK;exact aF ho rfl (aE (v:=.pointer (some ⟨w.heap.size,1,none⟩)) (w':=w') (by simp[execOp,e2,go_sem]) ⟨rfl,hK⟩)
   . have e11:(a.tmps[11]?).getD undef=(.pointer (some ⟨w.heap.size,1,none⟩):Value):=gD (hI.done 0 11 (by simp) rfl (hdep ⟨0,.data⟩ (by simp) rfl));have hK:=hJ;rw[<-aB (l:=aA) (i:=1) (k:=4) (by decide)]at hK;rw[<-aB (l:=aA) (i:=1) (k:=5) (by decide)]at hK;exact aF ho rfl (aE (v:=.agg #[.int .i64 f1,.slice A1 n1 c1]) (w':=w') (by simp[execOp,e11,k1,k2,go_sem]) ⟨rfl,hK⟩)
   . have e2:(a.tmps[2]?).getD undef=(.pointer (some ⟨w.heap.size,0,none⟩):Value):=gD (hI.fix 2 (by decide));have hK:=hJ;rw[<-aB (l:=aA) (i:=2) (k:=4) (by decide)]at hK;rw[<-aB (l:=aA) (i:=2) (k:=5) (by decide)]at hK;exact aF ho rfl (aE (v:=.pointer (some ⟨w.heap.size,3,none⟩)) (w':=w') (by simp[execOp,e2,go_sem]) ⟨rfl,hK⟩)
   . have e13:(a.tmps[13]?).getD undef=(.pointer (some ⟨w.heap.size,3,none⟩):Value):=gD (hI.done 2 13 (by simp) rfl (hdep ⟨2,.data⟩ (by simp) rfl));have hK:=hJ;rw[<-aB (l:=aA) (i:=3) (k:=4) (by decide)]at hK;rw[<-aB (l:=aA) (i:=3) (k:=5) (by decide)]at hK;exact aF ho rfl (aE (v:=.agg #[.int .i64 f2,.slice A2 n2 c2]) (w':=w') (by simp[execOp,e13,k3,k4,go_sem]) ⟨rfl,hK⟩)
   . have e4:(a.tmps[4]?).getD undef=(.pointer (some ⟨w.heap.size+1,0,none⟩):Value):=gD (hI.fix 4 (by decide));have e12:(a.tmps[12]?).getD undef=(.agg #[.int .i64 f1,.slice A1 n1 c1]:Value):=gD (hI.done 1 12 (by simp) rfl (hdep ⟨1,.data⟩ (by simp) rfl));obtain⟨hj1,hj2,hj3⟩:=hJ;obtain⟨m0,m1,m2⟩:=hj1.cells;obtain⟨hs1,hs2⟩:=hj1.set (.int .i64 f1) (.slice A1 n1 c1);refine aF ho rfl (bF (w':=(w'.setCell ⟨w.heap.size+1,0,none⟩ (.int .i64 f1)).setCell ⟨w.heap.size+1,1,none⟩ (.slice A1 n1 c1)) (by simp[execOp,e4,e12,m0,m1,m2,go_sem]) ⟨rfl,?_,?_,?_⟩)
     . rw[aJ (by omega)];exact hs1
     . rw[aB (by decide)];exact hj2.upd hs2 (by omega)
     exact cC hj3 (hs2.more λi hi=>.inl (.inl hi))
   have e5:(a.tmps[5]?).getD undef=(.pointer (some ⟨w.heap.size+1+1,0,none⟩):Value):=gD (hI.fix 5 (by decide));have e14:(a.tmps[14]?).getD undef=(.agg #[.int .i64 f2,.slice A2 n2 c2]:Value):=gD (hI.done 3 14 (by simp) rfl (hdep ⟨3,.data⟩ (by simp) rfl));obtain⟨hj1,hj2,hj3⟩:=hJ;obtain⟨m0,m1,m2⟩:=hj2.cells;obtain⟨hs1,hs2⟩:=hj2.set (.int .i64 f2) (.slice A2 n2 c2);refine aF ho rfl (bF (w':=(w'.setCell ⟨w.heap.size+1+1,0,none⟩ (.int .i64 f2)).setCell ⟨w.heap.size+1+1,1,none⟩ (.slice A2 n2 c2)) (by simp[execOp,e5,e14,m0,m1,m2,go_sem]) ⟨rfl,?_,?_,?_⟩)
   . rw[aB (by decide)];exact hj1.upd hs2 (by omega)
   . rw[aJ (by omega)];exact hs1
   exact cC hj3 (hs2.more λi hi=>.inl (.inr hi))
  case fin=>
   intro aA wz hz hall hJ;have hz:aA.size=6:=hz;have hall:∀i,i<6->aA.getD i false=true:=hall;simp only[List.size_toArray,List.length_cons,List.length_nil,Nat.reduceAdd,bI];simp
   rw[hall 4 (by omega),hall 5 (by omega)]at hJ;obtain⟨hj1,hj2,hj3⟩:=hJ;obtain⟨m0,m1,_⟩:=hj1.cells;obtain⟨l0,l1,_⟩:=hj2.cells;simp only[if_true]at m0 m1 l0 l1;go_wp2_with fail;refine bodyPost_ret (v:=.tuple #[.agg #[.int .i64 f1,.slice A1 n1 c1],.agg #[.int .i64 f2,.slice A2 n2 c2]]) (by simp[results,Try.results70,go_sem,m0,m1,l0,l1]) rfl ⟨rfl,?_⟩;exact HB3.out.trans ((hj3.toLow (B:=w.heap.size) (by omega) (by rintro k (rfl | rfl) <;> omega)))
def aY (s:Sp)(p l r:Nat)(pos:Bool):Bool:=decide (s.parents.length=p)&&decide (s.lits.length=l)&&decide (s.right.length=r)&&(pos || decide (s.pos.length=0))
theorem RdS.forms {w:World} {B:Nat} {s:Sp} {v1 v2 v3 v4 v5:Value} (h:RdS w B s v1 v2 v3 v4 v5):∃A1 c1 A2 c2 A3 c3 A4 c4 A5 c5,v1=.slice A1 s.parents.length c1/\v2=.slice A2 s.lits.length c2/\v3=.slice A3 s.right.length c3/\v4=.slice A4 s.pos.length c4/\v5=.slice A5 s.clause.length c5/\
 s.parents.length<=140737488351232/\s.lits.length<=140737488351232/\s.right.length<=140737488351232/\s.pos.length<=140737488351232/\s.clause.length<=140737488351232:=by
 obtain⟨A1,c1,e1,_,n1,_⟩:=Rd.row_form h.parents;obtain⟨A2,c2,e2,_,n2,_⟩:=Rd.row_form h.lits;obtain⟨A3,c3,e3,_,n3,_⟩:=Rd.row_form h.right;obtain⟨A4,c4,e4,_,n4,_⟩:=Rd.row_form h.pos;obtain⟨A5,c5,e5,_,n5,_⟩:=Rd.cl_form h.clause;exact⟨A1,c1,A2,c2,A3,c3,A4,c4,A5,c5,e1,e2,e3,e4,e5,n1,n2,n3,n4,n5⟩
theorem aN (s:Sp)(p l r:Nat)(pos:Bool)(v1 v2 v3 v4 v5:Value)(B:Nat)(w:World)(hs:RdS w B s v1 v2 v3 v4 v5):
 Calls Try.prog 46 #[.agg #[.int .i64 s.rule,v1,v2,v3,v4,v5],.int .i64 (p:Nat),.int .i64 (l:Nat),.int .i64 (r:Nat),.bool pos] w (aP (aY s p l r pos) w):=by
 obtain⟨A1,c1,A2,c2,A3,c3,A4,c4,A5,c5,rfl,rfl,rfl,rfl,rfl,n1,n2,n3,n4,n5⟩:=hs.forms;obtain⟨rb,hrb⟩:∃rb,aY s p l r pos=rb:=⟨_,rfl⟩;rw[hrb];unfold aY at hrb;clear hs;generalize s.parents.length=m1 at*;generalize s.lits.length=m2 at*;generalize s.right.length=m3 at*;generalize s.pos.length=m4 at*;generalize s.clause.length=m5 at*;generalize s.rule=ru at*;by_cases h1:m1=p
 . have q1:((m1:Int)==(p:Int))=true:=by rw[h1];simp
   by_cases h2:m2=l
   . have q2:((m2:Int)==(l:Int))=true:=(by rw[h2];simp);by_cases h3:m3=r
     . have q3:((m3:Int)==(r:Int))=true:=(by rw[h3];simp);cases pos with
       | true=>
        have hrb:rb=true:=(by rw[<-hrb];simp[h1,h2,h3]);clear h1 h2 h3;have HRB:=Lh hrb;clear hrb;go_enter Try.func46,Try.ntmps46;go_wp2_with fail;go_ret;exact⟨by rw[HRB.out];rfl,aD w _⟩
       | false=>
        by_cases h4:m4=0
        . have q4:((m4:Int)==0)=true:=(by rw[h4];rfl);have hrb:rb=true:=(by rw[<-hrb];simp[h1,h2,h3,h4]);clear h1 h2 h3 h4;have HRB:=Lh hrb;clear hrb;go_enter Try.func46,Try.ntmps46;go_wp2_with fail;go_ret;exact⟨by rw[HRB.out];rfl,aD w _⟩
        have q4:((m4:Int)==0)=false:=(by rw[beq_eq_false_iff_ne];omega);have hrb:rb=false:=(by rw[<-hrb];simp[h4]);clear h1 h2 h3 h4;have HRB:=Lh hrb;clear hrb;go_enter Try.func46,Try.ntmps46;go_wp2_with fail;go_ret;exact⟨by rw[HRB.out];rfl,aD w _⟩
     have q3:((m3:Int)==(r:Int))=false:=(by rw[beq_eq_false_iff_ne];omega);have hrb:rb=false:=(by rw[<-hrb];simp[h3]);clear h1 h2 h3;have HRB:=Lh hrb;clear hrb;go_enter Try.func46,Try.ntmps46;go_wp2_with fail;go_ret;exact⟨by rw[HRB.out];rfl,aD w _⟩
   have q2:((m2:Int)==(l:Int))=false:=by rw[beq_eq_false_iff_ne];omega
   have hrb:rb=false:=by rw[<-hrb];simp[h2]
   clear h1 h2;have HRB:=Lh hrb;clear hrb;go_enter Try.func46,Try.ntmps46;go_wp2_with fail;go_ret;exact⟨by rw[HRB.out];rfl,aD w _⟩
 have q1:((m1:Int)==(p:Int))=false:=by rw[beq_eq_false_iff_ne];omega
 have hrb:rb=false:=by rw[<-hrb];simp[h1]
 clear h1;have HRB:=Lh hrb;clear hrb;go_enter Try.func46,Try.ntmps46;go_wp2_with fail;go_ret;exact⟨by rw[HRB.out];rfl,aD w _⟩
/-! ## at -/
def atT:Tm->List Int->Option Tm
 | t,[]=>some t
 | .mk _ xs,i::p=>if 0<=i/\i<xs.length then(match xs[i.toNat]? with | some x=>atT x p | none=>none)else none
def sR (t:Tm)(p:List Int):Tm × Bool:=match atT t p with | some x=>(x,true) | none=>(.mk 0 [],false)
def AtR (B:Nat)(r:Tm × Bool)(w:World)(e:Ending)(w':World):Prop:=
 ∃A c,e=.returned (.tuple #[.agg #[.int .i64 r.1.fn,.slice A r.1.args.length c],.bool r.2])/\Rd w' B (.sl 2 (aH r.1.args)) (.slice A r.1.args.length c)/\Below w.heap.size w w'
theorem pS {f:Int} {xs:List Tm} {i:Int} {p:List Int} (h0:0<=i)(h:i.toNat<xs.length):atT (.mk f xs) (i::p)=atT xs[i.toNat] p:=by
 rw[atT,if_pos ⟨h0,by omega⟩,List.getElem?_eq_getElem h]
theorem pR {f:Int} {xs:List Tm} {i:Int} {p:List Int} (h:¬(0<=i/\i<xs.length)):atT (.mk f xs) (i::p)=none:=by
 rw[atT,if_neg h]
theorem aN6 (f:Int)(xs:List Tm)(v2 vp:Value)(p:List Int)(B:Nat)(w:World)(hr:Rd w B (.sl 2 (aH xs)) v2)(hp:Rd w B (bM p) vp)(hB:B<=w.heap.size):
 Calls Try.prog 73 #[.agg #[.int .i64 f,v2],vp] w (AtR B (sR (.mk f xs) p) w):=by
 obtain⟨A,c,rfl,hc,hn,hm⟩:=hr.tm_form;obtain⟨Ap,cp,rfl,hcp,hnp,hmp⟩:=Rd.row_form hp;obtain⟨r,hr0⟩:∃r,sR (.mk f xs) p=r:=⟨_,rfl⟩;rw[hr0];unfold sR at hr0;have HR0:=Lh hr0;have HR:=Lh hr;have HP:=Lh hp;clear hr0 hr hp;obtain⟨hx1,hx2,hB3,hz3⟩:=aO w (.cells #[.int .i64 f,.slice A xs.length c] 87) (.cells #[.int .i64 0,.slice none 0 0] 87);go_enter Try.func73,Try.ntmps73;go_upto_region 1 with fail
 generalize (w.alloc (.cells #[.int .i64 f,.slice A xs.length c] 87)).alloc (.cells #[.int .i64 0,.slice none 0 0] 87)=w3 at hx1 hx2 hB3 hz3 ⊢;have HB3:=Lh hB3;have Hx1:=Lh hx1;have Hx2:=Lh hx2;clear hx1 hx2 hB3;go_wp2_with fail;go_loopw [10] (λi wr=>∃(k:Nat) (g:Int) (ys:List Tm) (A2:Option Addr) (c2:Nat),i=.int .i64 k/\k<=p.length/\atT (.mk f xs) p=atT (.mk g ys) (p.drop k)/\Rd wr B (.sl 2 (aH ys)) (.slice A2 ys.length c2)/\
  aL w.heap.size 87 (.int .i64 g) (.slice A2 ys.length c2) wr/\Upd w3 wr (λk=>k=w.heap.size)) (λi _=>p.length-(intOf i).toNat)
 case atStart=>exact⟨0,f,xs,A,c,rfl,Nat.zero_le _,rfl,HR.out.low HB3.out hB,Hx1.out,Upd.refl _ _⟩
 obtain⟨k,g,ys,A2,c2,rfl,hk,hat,hrd,hbx,hup⟩:=hrel;obtain⟨m0,m1,m2⟩:=hbx.cells;have hzr:=hup.size;have hb2:=(hup.block (w.heap.size+1) (by omega) (by omega)).trans Hx2.out;have hl2:=eA hb2;have hbb:aL (w.heap.size+1) 87 (.int .i64 0) (.slice none 0 0) wr:=hb2;have Hat:=Lh hat;have Hrd:=Lh hrd;have Hbx:=Lh hbx;have Hup:=Lh hup;have Hbb:=Lh hbb;clear hat hrd hbx hup hb2 hbb;obtain⟨n0,n1,n2⟩:=Hbb.out.cells;have hlow:Below w.heap.size w wr:=HB3.out.trans (Hup.out.toLow (by omega) (by rintro k rfl;omega));have Hlow:=Lh hlow;clear hlow;by_cases hlt:k<p.length
 . obtain⟨ap,op,rfl,hap,kp⟩:=Rd.leaf_at (f:=λn:Int=>Value.int .i64 n) (HP.out.low Hlow.out hB) hlt;have hdr:=List.drop_eq_getElem_cons hlt;obtain⟨i,hi⟩:∃i,p[k]=i:=⟨_,rfl⟩;rw[hi]at kp hdr;have Hdr:=Lh hdr;clear hdr hi;by_cases hin:0<=i/\i<ys.length
   . obtain⟨hi0,hi1⟩:=hin;obtain⟨j,rfl⟩:∃j:Nat,i=j:=⟨i.toNat,by omega⟩;have hj:j<ys.length:=(by omega);obtain⟨ab,off,g',zs,A3,c3,rfl,hxk,hb,c0,c1,hrd⟩:=Hrd.out.tm_at hj;have hst:=pS (f:=g) (p:=p.drop (k+1)) (xs:=ys) (i:=(j:Int)) (by omega) (by simpa using hj);simp only[Int.toNat_natCast,hxk]at hst;have Hst:=Lh hst;have Hr3:=Lh hrd;clear hst hxk hrd;go_wp2_with fail;go_roundw
     case rel=>
      obtain⟨s1,s2⟩:=Hbx.out.set (.int .i64 g') (.slice A3 zs.length c3);refine⟨k+1,g',zs,A3,c3,by go_num,by omega,by rw[Hat.out,Hdr.out,Hst.out],?_,s1,cC Hup.out s2⟩;exact s2.keepRd Hr3.out (by omega) (by rintro k rfl;omega)
     case measure=>simp[intOf];omega
   have hnn:=pR (f:=g) (p:=p.drop (k+1)) hin;have hres:r=(.mk 0 [],false):=by rw[<-HR0.out,Hat.out,Hdr.out,hnn]
   have Hres:=Lh hres;have hcase:i<0\/(0<=i/\(ys.length:Int)<=i):=by omega
   clear hnn hres hin;rcases hcase with h | ⟨h,h'⟩
   all_goals
    go_wp2_with fail;obtain⟨s1,s2⟩:=Hbb.out.set (.int .i64 0) (.slice none 0 0);obtain⟨j0,j1,_⟩:=s1.cells;refine bodyPost_ret (v:=.tuple #[.agg #[.int .i64 0,.slice none 0 0],.bool false]) (by simp[results,Try.results73,go_sem,j0,j1]) rfl ?_;rw[Hres.out];exact⟨none,0,rfl,.none_ _,Hlow.out.trans (s2.toLow (by omega) (by rintro k rfl;omega))⟩
 have hke:p.drop k=[]:=List.drop_eq_nil_of_le (by omega);have hres:r=(.mk g ys,true):=by rw[<-HR0.out,Hat.out,hke,atT]
 have Hres:=Lh hres;clear hke hres;go_wp2_with fail;obtain⟨s1,s2⟩:=Hbb.out.set (.int .i64 g) (.slice A2 ys.length c2);obtain⟨j0,j1,_⟩:=s1.cells;refine bodyPost_ret (v:=.tuple #[.agg #[.int .i64 g,.slice A2 ys.length c2],.bool true]) (by simp[results,Try.results73,go_sem,j0,j1]) rfl ?_;rw[Hres.out];exact⟨A2,c2,rfl,s2.keepRd Hrd.out (by omega) (by rintro k rfl;omega),Hlow.out.trans (s2.toLow (by omega) (by rintro k rfl;omega))⟩
theorem oX:SliceTy Try.prog 49 51 2 32:=jI Try.underlying49 (by kernel_rfl:(Try.prog.info? 51).map (λi=>(i.zero,i.size,i.bytes))=some (some (.agg #[.int .i64 0,.slice none 0 0]),2,32)) rfl (by decide)
theorem nW:SliceTy Try.prog 38 53 5 72:=jI Try.underlying38 (by kernel_rfl:(Try.prog.info? 53).map (λi=>(i.zero,i.size,i.bytes))=some (some (.agg #[.bool false,.int .i64 0,.slice none 0 0,.int .i64 0,.slice none 0 0]),5,72)) rfl (by decide)
theorem aL2 {xs:List Tm}:∀r∈aH xs,∀t∈r,∀y,t=Tr.leaf y->y.oneCell'=true:=by
 intro r hr t ht y hy;rw[bS]at hr;obtain⟨⟨f,zs⟩,_,rfl⟩:=List.mem_map.1 hr;simp only[bB,List.mem_cons,List.not_mem_nil,or_false]at ht;rcases ht with rfl | rfl
 . injection hy with hy;subst hy;rfl
 cases hy
theorem uY {c:Cl}:∀r∈c.map aQ,∀t∈r,∀y,t=Tr.leaf y->y.oneCell'=true:=by
 intro r hr t ht y hy;obtain⟨⟨b,⟨f,zs⟩,⟨g,us⟩⟩,_,rfl⟩:=List.mem_map.1 hr;simp only[aQ,bB,List.cons_append,List.nil_append,List.mem_cons,List.not_mem_nil,or_false]at ht;rcases ht with rfl | rfl | rfl | rfl | rfl
 . injection hy with hy;subst hy;rfl
 . injection hy with hy;subst hy;rfl
 . cases hy
 . injection hy with hy;subst hy;rfl
 cases hy
def yE (M:Nat->Prop)(e:TypeId)(size:Nat)(trs:List (List Tr))(w:World)(en:Ending)(w':World):Prop:=∃v,en=.returned v/\bC w' M w.heap.size e size v trs/\Below w.heap.size w w'
theorem yJ (xs:List Tm)(v:Value)(M:Nat->Prop)(w:World)(hr:RdP w M (.sl 2 (aH xs)) v)(hn:xs.length<=1000000000):
 Calls Try.prog 98 #[v] w (yE M 51 2 (aH xs) w):=by
 have hrr:=hr.rd';obtain⟨A,c,rfl,hc,hn0,hm⟩:=Rd.tm_form hrr;have hlen:(aH xs).length=xs.length:=by simp[bG]
 cases A with
 | none=>
  have hx:(aH xs)=[]:=by
   rcases hrr.sl_inv with⟨h,_⟩ | ⟨b,off,c',us,hv,_⟩
   . exact h
   cases hv
  rw[hx];have Hlen:=Lh hlen;have hx0:xs.length=0:=by rw[<-hlen,hx];rfl
  have hc0:c=0:=by
   rcases hrr.sl_inv with⟨_,A',hv⟩ | ⟨b,off,c',us,hv,_⟩
   . injection hv
   cases hv
  rw[hx0,hc0];have heq:=λw=>Lib.run_eql_slice_nil (P:=Try.prog) w 49 51 none 0 0 0 0 oX.ht
  clear hr hrr hx hlen hc hm hn0 hc0 Hlen;go_enter Try.func98,Try.ntmps98;go_wp2_with fail;go_ret;exact⟨_,rfl,bC.nil _ _ _ _ _,Below.refl _ _⟩
 | some a=>
  have Hlen:=Lh hlen;have HR:=Lh hr;have heq:=λw=>Lib.run_eql_slice_nil (P:=Try.prog) w 49 51 (some a) xs.length c 0 0 oX.ht
  clear hr hrr hlen;go_enter Try.func98,Try.ntmps98;go_wp2_with (first
   | (
    at_builtin
    go_loud (refine fC _ rfl (.tmp 5) (.tmp 6) _ rfl oX (M:=M) (base:=w.heap.size) (trs:=[]) (news:=aH xs) rfl (bC.empty (g:=w.heap.size) (by exact heap_alloc_new w _) (Nat.le_refl _)) rfl ((HR.out.more (P':=λb=>M b/\b<w.heap.size) (λb hb hlt=>⟨hb,hlt⟩)).low (aD w _) |>.more (λb hb _=>⟨.inl hb.1,λe=>by have e2:w.heap.size=b:=Option.some.inj e;have:=hb.2;omega⟩)) aL2 (by rw[Hlen.out];simp;omega) (by rw[Hlen.out];unfold maxLen;simp;omega) (by simp) ?_)
    intro v4 w4 hown4 hup4 _;have Hown4:=Lh hown4;have Hup4:=Lh hup4;clear hown4 hup4))
  go_ret;refine⟨_,rfl,by simpa using Hown4.out,?_⟩;exact(aD w _).trans (Hup4.out.toLow (by simp) (by rintro k hk;have e2:w.heap.size=k:=Option.some.inj hk;omega))
theorem pV (xs:List Lt)(v:Value)(M:Nat->Prop)(w:World)(hr:RdP w M (.sl 5 (xs.map aQ)) v)(hn:xs.length<=1000000000):
 Calls Try.prog 85 #[v] w (yE M 53 5 (xs.map aQ) w):=by
 have hrr:=hr.rd';obtain⟨A,c,rfl,hc,hn0,hm⟩:=Rd.row_form hrr;have hlen:(xs.map aQ).length=xs.length:=by simp[List.length_map]
 cases A with
 | none=>
  have hx:(xs.map aQ)=[]:=by
   rcases hrr.sl_inv with⟨h,_⟩ | ⟨b,off,c',us,hv,_⟩
   . exact h
   cases hv
  rw[hx];have Hlen:=Lh hlen;have hx0:xs.length=0:=by rw[<-hlen,hx];rfl
  have hc0:c=0:=by
   rcases hrr.sl_inv with⟨_,A',hv⟩ | ⟨b,off,c',us,hv,_⟩
   . injection hv
   cases hv
  rw[hx0,hc0];have heq:=λw=>Lib.run_eql_slice_nil (P:=Try.prog) w 38 53 none 0 0 0 0 nW.ht
  clear hr hrr hx hlen hc hm hn0 hc0 Hlen;go_enter Try.func85,Try.ntmps85;go_wp2_with fail;go_ret;exact⟨_,rfl,bC.nil _ _ _ _ _,Below.refl _ _⟩
 | some a=>
  have Hlen:=Lh hlen;have HR:=Lh hr;have heq:=λw=>Lib.run_eql_slice_nil (P:=Try.prog) w 38 53 (some a) xs.length c 0 0 nW.ht
  clear hr hrr hlen;go_enter Try.func85,Try.ntmps85;go_wp2_with (first
   | (
    at_builtin
    go_loud (refine fC _ rfl (.tmp 5) (.tmp 6) _ rfl nW (M:=M) (base:=w.heap.size) (trs:=[]) (news:=xs.map aQ) rfl (bC.empty (g:=w.heap.size) (by exact heap_alloc_new w _) (Nat.le_refl _)) rfl ((HR.out.more (P':=λb=>M b/\b<w.heap.size) (λb hb hlt=>⟨hb,hlt⟩)).low (aD w _) |>.more (λb hb _=>⟨.inl hb.1,λe=>by have e2:w.heap.size=b:=Option.some.inj e;have:=hb.2;omega⟩)) uY (by rw[Hlen.out];simp;omega) (by rw[Hlen.out];unfold maxLen;simp;omega) (by simp) ?_)
    intro v4 w4 hown4 hup4 _;have Hown4:=Lh hown4;have Hup4:=Lh hup4;clear hown4 hup4))
  go_ret;refine⟨_,rfl,by simpa using Hown4.out,?_⟩;exact(aD w _).trans (Hup4.out.toLow (by simp) (by rintro k hk;have e2:w.heap.size=k:=Option.some.inj hk;omega))
theorem mR {α:Type} (u v:α):∀(rows:List (List α)) (k:Nat),(∀r∈rows,r.length=2)->k<rows.length->(rows.set k [u,v]).flatten=(rows.flatten.set (k*2) u).set (k*2+1) v
 | [],k,_,h=>by simp at h
 | r::rows,0,hr,_=>by
  have h2:=hr r (List.mem_cons_self ..);match r,h2 with
  | [a,b],_=>simp
 | r::rows,k+1,hr,h=>by
  have h2:=hr r (List.mem_cons_self ..);have ih:=mR u v rows k (λr h=>hr r (List.mem_cons_of_mem _ h)) (by simpa using h);match r,h2 with
  | [a,b],_=>
   have e1:(k+1)*2=k*2+1+1:=by omega
   rw[List.set_cons_succ,List.flatten_cons,List.flatten_cons,ih,e1];simp
theorem Own.setRow2 {w:World} {base g n c k:Nat} {e:TypeId} {rows:List (List Value)} (h:Own w base e 2 (.slice (some ⟨g,0,none⟩) n c) rows)(hk:k<rows.length)(u0 u1:Value):
 Own ((w.setCell ⟨g,k*2,none⟩ u0).setCell ⟨g,k*2+1,none⟩ u1) base e 2 (.slice (some ⟨g,0,none⟩) n c) (rows.set k [u0,u1]):=by
 have hn:n=rows.length:=by
  obtain⟨A,c',hv,_⟩:=h.form;injection hv
 subst hn;have h1:=h.1;have h2:=(h1.stored (k*2) u0).1;have h3:=(h2.stored (k*2+1) u1).1;refine⟨?_,?_⟩
 . rw[List.length_set,mR _ _ rows k h.2 hk];exact h3
 intro r hr;rcases List.mem_or_eq_of_mem_set hr with h' | rfl
 . exact h.2 r h'
 rfl
theorem bC.set2 {w:World} {M:Nat->Prop} {base g n c k:Nat} {e:TypeId} {trs:List (List Tr)} (h:bC w M base e 2 (.slice (some ⟨g,0,none⟩) n c) trs)(hk:k<trs.length) {t0 t1:Tr} {u0 u1:Value}
 (h0:RdP w (λb=>NbP M base b/\b≠g) t0 u0) (h1:RdP w (λb=>NbP M base b/\b≠g) t1 u1):
 bC ((w.setCell ⟨g,k*2,none⟩ u0).setCell ⟨g,k*2+1,none⟩ u1) M base e 2 (.slice (some ⟨g,0,none⟩) n c) (trs.set k [t0,t1]):=by
 obtain⟨rows,ho,hl,hr,hc⟩:=h;have hup:Upd w ((w.setCell ⟨g,k*2,none⟩ u0).setCell ⟨g,k*2+1,none⟩ u1) (λi=>i=g):=
  (aM (w:=w) (b:=g) (o:=k*2) u0).trans (aM (w:=w.setCell ⟨g,k*2,none⟩ u0) (b:=g) (o:=k*2+1) u1) (λ_ h=>.inl h)
 have hkr:k<rows.length:=by omega
 have conv:∀{t:Tr} {u:Value},RdP w (λb=>NbP M base b/\b≠g) t u->RdP ((w.setCell ⟨g,k*2,none⟩ u0).setCell ⟨g,k*2+1,none⟩ u1) (λb=>NbP M base b/\(Value.slice (some ⟨g,0,none⟩) n c).ownBlock≠some b) t u:=λhh=>
  (hh.upd hup (λb hb _=>hb.2)).more λb hb _=>⟨hb.1,λe=>hb.2 (by have:g=b:=Option.some.inj e;exact this.symm)⟩
 refine⟨rows.set k [u0,u1],ho.setRow2 hkr u0 u1,by simp[hl],?_,?_⟩
 . intro r hr';rcases List.mem_or_eq_of_mem_set hr' with h' | rfl
   . exact hr r h'
   rfl
 intro j hj hj2 i hi hi2;by_cases hjk:k=j
 . subst hjk;simp only[List.getElem_set_self]at hi hi2 ⊢;match i,hi with
   | 0,_=>exact conv h0
   | 1,_=>exact conv h1
 simp only[List.getElem_set_ne hjk]at hi hi2 ⊢;exact conv ((hc j (by simpa using hj) (by simpa using hj2) i hi hi2).more λb hb _=>⟨hb.1,λe=>hb.2 (by rw[e];rfl)⟩)
theorem bC.row2 {w:World} {M:Nat->Prop} {base n c k:Nat} {A:Option Addr} {e:TypeId} {trs:List (List Tr)} (h:bC w M base e 2 (.slice A n c) trs)(hk:k<trs.length):
 ∃g u0 u1,A=some ⟨g,0,none⟩/\base<=g/\g<w.heap.size/\n=trs.length/\w.cell? ⟨g,k*2,none⟩=some u0/\w.cell? ⟨g,k*2+1,none⟩=some u1/\(∀j,w.frozen? ⟨g,j,none⟩=false)/\
  (∀(h0:0<trs[k].length),RdP w (λb=>NbP M base b/\b≠g) trs[k][0] u0)/\(∀(h1:1<trs[k].length),RdP w (λb=>NbP M base b/\b≠g) trs[k][1] u1):=by
 obtain⟨rows,ho,hl,hr,hc⟩:=h;have hkr:k<rows.length:=by omega
 obtain⟨g,hA,hb,hg,hcell,_⟩:=ho.row_at (k:=k) hkr (by decide);have hrl:rows[k].length=2:=ho.2 _ (List.getElem_mem hkr);have htl:trs[k].length=2:=hr _ (List.getElem_mem hk);have hn:n=rows.length:=by
  obtain⟨A,c',hv,_⟩:=ho.form;injection hv
 refine⟨g,rows[k][0],rows[k][1],hA,hb,hg,by omega,hcell 0 (by decide),hcell 1 (by decide),λj=>?_,λh0=>?_,λh1=>?_⟩
 . subst hA;rcases ho.1.2 with⟨h',_⟩ | ⟨g',cap,cur,h',_,hh,_⟩
   . cases h'
   injection h' with h' _ _
   injection h' with h'
   injection h' with h' _ _
   subst h';exact frozen_of_row w _ j cur e hh
 . exact(hc k hk hkr 0 (by omega) (by omega)).more λb hb' _=>⟨hb'.1,λe=>hb'.2 (by rw[hA,e];rfl)⟩
 exact(hc k hk hkr 1 (by omega) (by omega)).more λb hb' _=>⟨hb'.1,λe=>hb'.2 (by rw[hA,e];rfl)⟩
end Go.Proofs.Ytiaoabfndnidiaa