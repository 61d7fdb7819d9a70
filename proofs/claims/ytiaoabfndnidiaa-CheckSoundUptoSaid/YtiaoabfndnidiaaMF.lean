/-
 Part 6 of the proof over the checker:walks and plain laws.
-/
import Derived.Test.YtiaoabfndnidiaaME
import Derived.IntWalk
import Derived.Test.YtiaoabfndnidiaaMA
import Derived.Maps.RangeWalk
set_option maxRecDepth 100000
set_option maxHeartbeats 8000000
set_option linter.unusedSimpArgs false
set_option linter.unusedVariables false
namespace Go.Proofs.Ytiaoabfndnidiaa
open Go.RowKit
theorem uF (w:World):(zeroValue 139).run Try.prog w=.ok (.agg #[.int .i64 0,.int .i64 0,.bool false]) w:=by kernel_rfl
theorem aP1 {w:World} {gk:Nat} {Kn:KnF} (h:bK w gk cE (λx=>(Kn x).map nS))(x:Int):
 (Instr.lookup 137 (.map (some gk)) (.int .i64 x) true).run Try.prog w=.ok (.tuple #[((Kn x).map nS).getD (.agg #[.int .i64 0,.int .i64 0,.bool false]),.bool (Kn x).isSome]) w:=by
 have:=h.lookup_ok fT Try.underlying137 (uF w) x;simpa [cE]using this
def aN1 (B:Nat)(X:Nat->Prop)(bj gm gk:Nat)(s:JS)(rep d:Nat->Nat)(N n:Nat)(Kn:KnF)(vt va vp:Value)(w:World)(e:Ending)(w':World):Prop:=
 Upd w w' (pB bj gm gk vt va vp)/\
  ((∃Kn' x,fV B X bj gm gk s rep d N Kn' vt va vp w'/\TreeR s.T s.As rep n x/\e=.returned (.tuple #[.agg #[.int .i64 (lM x:Nat),.int .i64 (dF x:Nat),.bool false],.bool true])/\aG1 s.T s.As rep N Kn'/\
   (∀(y:Nat) v,Kn (y:Int)=some (some v)->Kn' (y:Int)=some (some v))/\(∀y:Nat,Kn' (y:Int)=some none↔Kn (y:Int)=some none)/\Kn' (rep n:Nat)=some (some (gX x)))
   \/(¬∃x,TreeR s.T s.As rep n x)/\∃Kn' a b c,fV B X bj gm gk s rep d N Kn' vt va vp w'/\e=.returned (.tuple #[.agg #[.int .i64 a,.int .i64 b,.bool c],.bool false]))
theorem zV (B bj gm gk:Nat)(s:JS)(rep d:Nat->Nat)(N:Nat)(vt va vp:Value)(hok:s.Ok)(hN:s.T.length=N)(hz:N<=1000000)(D:Nat):
 ∀(X:Nat->Prop) (n:Nat) (Kn:KnF) (w:World),pW Kn N<D->fV B X bj gm gk s rep d N Kn vt va vp w->n<N->aG1 s.T s.As rep N Kn->(∀m:Nat,Kn (m:Int)=some none->Desc s.As rep m n)->
 Calls Try.prog 89 #[.pointer (some ⟨bj,0,none⟩),.int .i64 (n:Nat),.map (some gk)] w (aN1 B X bj gm gk s rep d N n Kn vt va vp w):=by
 induction D with
 | zero=>intro X n Kn w h;omega
 | succ D ih=>
 intro X n Kn w hD hI hn hkn hpath;have Hih:=Lh ih;have HI:=Lh hI;have Hkn:=Lh hkn;have Hpath:=Lh hpath;have Hok:=Lh hok;have HN:=Lh hN;clear ih hI hkn hpath hok hN;obtain⟨hx0,hB0,hz0⟩:=pT w (.cells #[.int .i64 0,.int .i64 0,.bool false] 139);go_enter Try.func89,Try.ntmps89;go_upto_region 1 with fail
 generalize w.alloc (.cells #[.int .i64 0,.int .i64 0,.bool false] 139)=w0 at hx0 hB0 hz0 ⊢;have hb6:fG w.heap.size 139 (.int .i64 0) (.int .i64 0) (.bool false) w0:=hx0;have hI0:fV B (λb=>X b\/b=w.heap.size) bj gm gk s rep d N Kn vt va vp w0:=HI.out.upd (Upd.low hB0 (λ_=>False)) (λ_ h=>h.elim) (λb e=>by rcases e with e | e;exact .inl e;exact .inr (by omega));have hI0':=hI0;obtain⟨hgB,hgX,hgX2,hm0,Ps0,hj0,hf0,hl0⟩:=hI0';have Hm0:=Lh hm0;have Hj0:=Lh hj0;have Hf0:=Lh hf0;have Hl0:=Lh hl0;have Hb6:=Lh hb6;have HB0:=Lh hB0;clear hx0 hm0 hj0 hf0 hl0 hb6 hB0 hI0;have hn0:n<Ps0.length:=by rw[Hl0.out];exact hn
 have hp0:Ps0.length<=1000000:=by rw[Hl0.out];exact hz
 go_upto_region 2 with(
  go_at_call 90
  refine(rE B (λb=>b=gk\/(X b\/b=w.heap.size)) bj gm ⟨s.T,s.As,Ps0,s.V⟩ rep d n vt va vp _ Hj0.out Hf0.out hn0 hp0).mono ?_;rintro e w1 ⟨rfl,Ps1,hj1,hg1,hf1,hl1⟩;have Hj1:=Lh hj1;have Hg1:=Lh hg1;have Hf1:=Lh hf1;have Hl1:=Lh hl1;clear hj1 hg1 hf1 hl1)
 obtain⟨r,hr⟩:∃r,rep n=r:=⟨_,rfl⟩;have hl1:Ps1.length=N:=by have h1:Ps1.length=Ps0.length:=Hl1.out;rw[h1,Hl0.out]
 obtain⟨hrN,hrr⟩:=Hf1.out.rep' (i:=n) (by omega);rw[hl1]at hrN;rw[hr]at hrN hrr ⊢;have Hr:=Lh hr;have Hrr:=Lh hrr;have hnb6:¬pB bj gm gk vt va vp w.heap.size:=λe=>by have:=(HI.out.lt _ e).1;omega
 have Hnb6:=Lh hnb6;have hm1:=Hm0.out.upd Hg1.out.upd (λe=>(Hj0.out.hX gk (.inl rfl)).1 e);have hI1:fV B (λb=>X b\/b=w.heap.size) bj gm gk s rep d N Kn vt va vp w1:=⟨hgB,hgX,hgX2,hm1,Ps1,Hj1.out,Hf1.out,hl1⟩;have hu1:Upd w w1 (pB bj gm gk vt va vp):=(Upd.low HB0.out _).trans (Hg1.out.upd.more (λi e=>.inl (.inl e))) (λi e=>.inl e);have hb61:=Hb6.out.upd Hg1.out.upd (λe=>hnb6 (.inl e));have hlk:=aP1 hm1 (r:Int);have hz1:=hu1.size;have hz01:=Hg1.out.upd.size;have HI1:=Lh hI1;have Hu1:=Lh hu1;have Hb61:=Lh hb61;clear hr hrr hnb6 hm1 hI1 hu1 hb61 hl1 hn0 hp0 Hm0 Hj0 Hf0 Hl0 Hb6 Hj1 Hf1 Hl1 Hg1;cases hK:Kn (r:Int)with
 | some v=>
  rw[hK]at hlk;obtain⟨c0,c1,c2,hev,hcv⟩:∃(c0 c1:Int) (c2:Bool),nS v=.agg #[.int .i64 c0,.int .i64 c1,.bool c2]/\c2=v.isNone:=by
   cases v with
   | none=>exact⟨0,0,true,rfl,rfl⟩
   | some p=>exact⟨_,_,false,rfl,rfl⟩
  simp only[Option.map_some,Option.getD_some,Option.isSome_some,hev]at hlk;have hbx:=aD w1 (.cells #[.int .i64 c0,.int .i64 c1,.bool c2] 139);have hbe:fG w1.heap.size 139 (.int .i64 c0) (.int .i64 c1) (.bool c2) (w1.alloc (.cells #[.int .i64 c0,.int .i64 c1,.bool c2] 139)):=heap_alloc_new w1 _;have HK:=Lh hK;have Hev:=Lh hev;have Hcv:=Lh hcv;clear hK hev hcv;go_upto_region 4 with fail
  generalize w1.alloc (.cells #[.int .i64 c0,.int .i64 c1,.bool c2] 139)=w2 at hbx hbe ⊢;have hb62:=Hb61.out.low hbx;have hI2:=HI1.out.low hbx;have hu2:=Hu1.out.trans (Upd.low hbx (λ_=>False)) (λ_ h=>h.elim);have hne:w1.heap.size≠w.heap.size:=by omega
  have hz2:=hbx.size;have Hb62:=Lh hb62;have HI2:=Lh hI2;have Hu2:=Lh hu2;have Hbe:=Lh hbe;clear hb62 hI2 hu2 hbx hbe hlk Hb61 HI1 Hu1;refine rg 6 (λ_ w'=>Upd w2 w' (λb=>b=w.heap.size)) ?_;intro wd hwd hbd;refine⟨?_,λhS=>?_⟩
  . exact Upd.low (hwd ▸ hbd) _
  refine tk 0 (.agg #[.int .i64 c0,.int .i64 c1,.bool c2]) hS ?_ λhS=>?_
  . intro w' L hn hw;have hh:=(Hbe.out.upd hw hne).cells;simp[execOp,go_sem,hh.1,hh.2.1,hh.2.2.1]
  refine ta 1 (.pointer (some ⟨w1.heap.size,2,none⟩)) hS λhS=>?_
  refine tk 2 (.bool c2) hS ?_ λhS=>?_
  . intro w' L hn hw;have hh:=(Hbe.out.upd hw hne).cells;simp[execOp,go_sem,hh.2.2.1]
  refine ta 3 (.bool (!c2)) hS λhS=>?_
  refine so 4 ?_;have hbx6:=Hb62.out.low (hwd ▸ hbd:Below w2.heap.size w2 wd);obtain⟨q0,q1,q2,q3⟩:=hbx6.cells;have hset:=hbx6.set (.int .i64 c0) (.int .i64 c1) (.bool c2);refine bF (w':=((wd.setCell ⟨w.heap.size,0,none⟩ (.int .i64 c0)).setCell ⟨w.heap.size,1,none⟩ (.int .i64 c1)).setCell ⟨w.heap.size,2,none⟩ (.bool c2)) (by simp[execOp,go_sem,q0,q1,q2,q3]) ?_;generalize ((wd.setCell ⟨w.heap.size,0,none⟩ (.int .i64 c0)).setCell ⟨w.heap.size,1,none⟩ (.int .i64 c1)).setCell ⟨w.heap.size,2,none⟩ (.bool c2)=w3 at hset ⊢;refine gS ?_ λhS=>?_
  . exact hS.trans hset.2 (λ_ h=>.inl h)
  refine ta 5 (.bool (!c2)) hS λhS=>?_
  refine dn ?_;have hI3:=HI2.out.low (hwd ▸ hbd:Below w2.heap.size w2 wd);have hI4:fV B X bj gm gk s rep d N Kn vt va vp w3:=hI3.upd hset.2 (λb e=>.inl (.inr e)) (λb e=>.inl (.inl e));have hu4:Upd w w3 (pB bj gm gk vt va vp):=(Hu2.out.trans hS (λi e=>.inr (by omega)));have Hset:=Lh hset.1;have HI4:=Lh hI4;have Hu4:=Lh hu4;clear q0 q1 q2 q3 hbx6 hset hS hI3 hI4 hu4 hwd hbd;go_wp2_with fail;obtain⟨q0,q1,q2,-⟩:=Hset.out.cells;refine bodyPost_ret (v:=.tuple #[.agg #[.int .i64 c0,.int .i64 c1,.bool c2],.bool (!c2)]) (by simp[results,Try.results89,go_sem,q0,q1,q2]) rfl ⟨Hu4.out,?_⟩;cases v with
  | none=>
   right
   refine⟨?_,Kn,c0,c1,c2,HI4.out,by rw[Hcv.out];rfl⟩;have h1:=(Hpath.out r HK.out).to_rep (b':=r) (by rw[Hr.out,Hrr.out]);rintro⟨x,hx⟩;exact h1.loop ⟨x,hx.of_rep (by rw[Hr.out,Hrr.out])⟩
  | some p=>
   left
   obtain⟨⟨x,hx,hp⟩,-⟩:=Hkn.out r p HK.out;refine⟨Kn,x,HI4.out,hx.of_rep (by rw[Hr.out,Hrr.out]),?_,Hkn.out,λ_ _ h=>h,λ_=>Iff.rfl,by rw[Hr.out,<-hp];exact HK.out⟩;have he:=Hev.out;rw[hp]at he;unfold nS gX at he;simp only[Value.agg.injEq]at he;rw[Hcv.out];simp only[Option.isNone_some,Bool.not_false];rw[Hcv.out,Option.isNone_some]at he;rw[he]
 | none=>
  rw[hK]at hlk;simp only[Option.map_none,Option.getD_none,Option.isNone_none,Option.isSome_none]at hlk;have HK:=Lh hK;clear hK;have hbx:=aD w1 (.cells #[.int .i64 0,.int .i64 0,.bool false] 139);obtain⟨-,-,-,hm1,-⟩:=HI1.out;have Hm1:=Lh hm1;have Hbx:=Lh hbx;clear hm1 hbx;go_upto_region 6 with(
   at_mapUpdate
   refine cZ rfl (.tmp 29) (.tmp 30) (.tmp 31) rfl fT Try.underlying137 rfl (r:Int) rfl (.agg #[.int .i64 0,.int .i64 0,.bool true]) rfl (by exact Hm1.out.low Hbx.out) ?_;intro w3 hm3 hu3;have Hm3:=Lh hm3;have Hu3:=Lh hu3;clear hm3 hu3)
  have hz3:=Hu3.out.size;rw[cQ]at hz3;have hI3:fV B (λb=>X b\/b=w.heap.size) bj gm gk s rep d N (λy=>if y=(r:Int)then some none else Kn y) vt va vp w3:=(HI1.out.low Hbx.out).known none Hm3.out Hu3.out;have hu3:Upd w w3 (pB bj gm gk vt va vp):=(Hu1.out.trans (Upd.low Hbx.out (λ_=>False)) (λ_ h=>h.elim)).trans Hu3.out (λi e=>.inl (.inr e));have hb63:=(Hb61.out.low Hbx.out).upd Hu3.out (λe=>Hnb6.out (.inr e));have HI3:=Lh hI3;have Hu33:=Lh hu3;have Hb63:=Lh hb63;clear hI3 hu3 hb63 Hm3 Hu3 Hm1 HI1 Hu1 Hb61 hlk;have hbx4:=aD w3 (.cells #[.int .i64 1,.int .i64 0,.bool false] 139);have hbe4:fG w3.heap.size 139 (.int .i64 1) (.int .i64 0) (.bool false) (w3.alloc (.cells #[.int .i64 1,.int .i64 0,.bool false] 139)):=heap_alloc_new w3 _;go_upto_region 7 with fail
  generalize w3.alloc (.cells #[.int .i64 1,.int .i64 0,.bool false] 139)=w5 at hbx4 hbe4 ⊢;have hz5:=hbe4.lt;have hI5:fV B (λb=>(X b\/b=w.heap.size)\/b=w3.heap.size) bj gm gk s rep d N (λy=>if y=(r:Int)then some none else Kn y) vt va vp w5:=
   HI3.out.upd (Upd.low hbx4 (λ_=>False)) (λ_ h=>h.elim) (λb e=>by rcases e with e | e;exact .inl e;exact .inr (by have:=hbe4.lt;omega))
  have hu5:Upd w w5 (pB bj gm gk vt va vp):=Hu33.out.trans (Upd.low hbx4 (λ_=>False)) (λ_ h=>h.elim);have hb65:=Hb63.out.low hbx4;have hI5':=hI5;obtain⟨-,-,-,-,Ps5,hj5,-,-⟩:=hI5';have hrA:r<s.As.length:=by have:=Hok.out.a;have:=HN.out;omega
  obtain⟨ga,ca,ur,hva,v3,-,hrx⟩:=hj5.args_at (k:=r) hrA;obtain⟨Ar,cr,rfl,-⟩:=hrx.rd'.sl_form;rw[List.length_map]at v3 hrx;obtain⟨l,hl⟩:∃l,s.As[r]=l:=⟨_,rfl⟩;simp only[hl]at v3 hrx;have hA:s.As.length=N:=by have:=Hok.out.a;have:=HN.out;omega
  dsimp only at hva
  rw[hA]at hva;subst hva;obtain⟨-,z1,-,-,-⟩:=hj5.cells;have hri:¬((N:Int)<=(r:Int)):=by omega
  have HI5:=Lh hI5;have Hu5:=Lh hu5;have Hb65:=Lh hb65;have Hbe4:=Lh hbe4;have Hrx:=Lh hrx;have Hl:=Lh hl;have HA:=Lh hA;clear hI5 hu5 hb65 hbe4 hbx4 hj5 hrx hl HI3 Hu33 Hb63 hA;go_wp2_with fail;have hasr:bV s.As r=l:=by unfold bV;rw[List.getElem?_eq_getElem hrA];exact Hl.out
  have hlz:l.length<=140737488351232:=by have:=Hrx.out.rd'.sl_form;obtain⟨_,_,_,_,h,_⟩:=this;rw[List.length_map]at h;omega
  have hlN:∀m∈l,m<N:=λm hm=>by have:=Hok.out.ax l (by rw[<-Hl.out];exact List.getElem_mem hrA) m hm;rw[HN.out]at this;exact this
  have hkb:aG1 s.T s.As rep N (λy=>if y=(r:Int)then some none else Kn y):=by
   intro m p hp;simp only at hp;split at hp
   . cases hp
   obtain⟨h1,h2⟩:=Hkn.out m p hp;refine⟨h1,Nat.le_trans h2 (kK (λx v hv=>⟨v,?_⟩) N)⟩;rw[if_neg (λe=>by rw[e,HK.out]at hv;cases hv)];exact hv
  have Hasr:=Lh hasr;have HlN:=Lh hlN;have Hkb:=Lh hkb;clear hasr hlN hkb;go_loopw [41] (λi wr=>∃k:Nat,k<=l.length/\i=.int .i64 k/\∃(xs:List Tm) (Kn1:KnF),TreesR s.T s.As rep (l.take k) xs/\
   fG w3.heap.size 139 (.int .i64 (min (aI xs+1) 301:Nat)) (.int .i64 (bO xs:Nat)) (.bool false) wr/\fG w.heap.size 139 (.int .i64 0) (.int .i64 0) (.bool false) wr/\
   fV B (λb=>(X b\/b=w.heap.size)\/b=w3.heap.size) bj gm gk s rep d N Kn1 vt (.slice (some ⟨ga,0,none⟩) N ca) vp wr/\Upd w5 wr (λb=>pB bj gm gk vt (.slice (some ⟨ga,0,none⟩) N ca) vp b\/b=w3.heap.size)/\aG1 s.T s.As rep N Kn1/\
   (∀(y:Nat) v,Kn (y:Int)=some (some v)->Kn1 (y:Int)=some (some v))/\(∀y:Nat,Kn1 (y:Int)=some none↔(y=r\/Kn (y:Int)=some none))/\bO xs<=kV Kn1 N) (λi _=>l.length-(intOf i).toNat)
  case atStart=>
   refine⟨0,Nat.zero_le _,rfl,[],_,.nil,Hbe4.out,Hb65.out,HI5.out,Upd.refl _ _,Hkb.out,λy v hv=>?_,λy=>?_,Nat.zero_le _⟩
   . rw[if_neg (λe=>by rw[e,HK.out]at hv;cases hv)];exact hv
   by_cases hy:y=r
   . subst hy;simp
   have:¬((y:Int)=(r:Int)):=λe=>hy (by omega)
   simp[this,hy]
  obtain⟨k,hk,rfl,xs,Kn1,htr,hbr,hb6r,hIr,hur,hkr,hdn,hbn,hdp⟩:=hrel;have hzr:=hur.size;have hcD:=uR Kn1 N;by_cases hlt:k<l.length
  . obtain⟨ab,off,rfl,hP,hlt2,i3⟩:=Hrx.out.ns_at hlt;obtain⟨q,hq⟩:∃q,l[k]=q:=⟨_,rfl⟩;rw[hq]at i3;have i3r:=(World.cell?_of_block (a:=⟨ab,off+k,none⟩) (hur.block ab hlt2 (λe=>by
     rcases e with(e | e) | e
     . exact hP.2.1 e
     . exact hP.2.2 (.inl e)
     exact hP.2.2 (.inr (.inr e))))).trans i3
    have hqN:q<N:=HlN.out q (by rw[<-hq];exact List.getElem_mem hlt);have hmem:q∈bV s.As (rep r):=(by rw[Hrr.out,Hasr.out,<-hq];exact List.getElem_mem hlt);have hcu:pW Kn1 N<D:=by
     have h1:=nR (Kn:=λy=>if y=(r:Int)then some none else Kn y) (Kn':=Kn1) (λx v hv=>by
      split at hv
      . rename_i e
        exact⟨none,(hbn x).2 (.inl (by omega))⟩
      cases v with
      | none=>exact⟨none,(hbn x).2 (.inr hv)⟩
      | some v=>exact⟨some v,hdn x v hv⟩) N
     have h2:=wH HK.out none N hrN;omega
    have hpt:∀m:Nat,Kn1 (m:Int)=some none->Desc s.As rep m q:=λm hm=>by
     rcases(hbn m).1 hm with e | e
     . subst e;exact .one _ _ _ hmem rfl
     exact .more _ r _ ((Hpath.out m e).to_rep (by rw[Hr.out,Hrr.out])) (.one _ _ _ hmem rfl)
    have Htr:=Lh htr;have Hbr:=Lh hbr;have Hb6r:=Lh hb6r;have HIr:=Lh hIr;have Hur:=Lh hur;have Hkr:=Lh hkr;have Hdn:=Lh hdn;have Hbn:=Lh hbn;have Hpt:=Lh hpt;have Hq:=Lh hq;have hn6:=hIr.nX (b:=w.heap.size) (.inl (.inr rfl));have hn4:=hIr.nX (b:=w3.heap.size) (.inr rfl);have Hn6:=Lh hn6;have Hn4:=Lh hn4;have Hmem:=Lh hmem;clear htr hbr hb6r hIr hur hkr hdn hbn hpt hq i3 hP hn6 hn4 v3 z1 hmem;by_cases hT:∃x,TreeR s.T s.As rep q x
    . obtain⟨x,hx⟩:=hT;have Hx:=Lh hx;clear hx;go_upto_region 13 with(
       go_at_call 89
       refine(Hih.out (λb=>(X b\/b=w.heap.size)\/b=w3.heap.size) q Kn1 _ hcu HIr.out hqN Hkr.out Hpt.out).mono ?_;rintro e w6 ⟨hup6,hcase⟩;rcases hcase with⟨Kn2,x2,hI2,hx2,rfl,hk2,hd2,hb2,hq2⟩ | ⟨hno,-⟩
       rotate_left
       . exact absurd ⟨x,Hx.out⟩ hno
       obtain rfl:=TreeR.det _ _ _ hx2 Hx.out;have Hup6:=Lh hup6;have HI2:=Lh hI2;have Hk2:=Lh hk2;have Hd2:=Lh hd2;have Hb2:=Lh hb2;have Hq2:=Lh hq2;clear hup6 hI2 hk2 hd2 hb2 hq2 hx2)
      have hbx7:=aD w6 (.cells #[.int .i64 (lM x2:Nat),.int .i64 (dF x2:Nat),.bool false] 139);have hbe7:fG w6.heap.size 139 (.int .i64 (lM x2:Nat)) (.int .i64 (dF x2:Nat)) (.bool false) (w6.alloc (.cells #[.int .i64 (lM x2:Nat),.int .i64 (dF x2:Nat),.bool false] 139)):=heap_alloc_new w6 _;generalize w6.alloc (.cells #[.int .i64 (lM x2:Nat),.int .i64 (dF x2:Nat),.bool false] 139)=w7 at hbx7 hbe7 ⊢;have hz6:=Hup6.out.size;have hz7:=hbx7.size;have hb47:=(Hbr.out.upd Hup6.out Hn4.out).low hbx7;have hb67:=(Hb6r.out.upd Hup6.out Hn6.out).low hbx7;have hI7:=HI2.out.low hbx7;obtain⟨c0,hc0⟩:∃c0,min (aI xs+1) 301=c0:=⟨_,rfl⟩;obtain⟨c1,hc1⟩:∃c1,bO xs=c1:=⟨_,rfl⟩;obtain⟨g0,hg0⟩:∃g0,lM x2=g0:=⟨_,rfl⟩;obtain⟨g1,hg1⟩:∃g1,dF x2=g1:=⟨_,rfl⟩;have hc0b:c0<=301:=(by omega);have hg0b:g0<=301:=(by rw[<-hg0];unfold lM;omega);have hdx:g1<=kV Kn2 N:=(by have:=(Hk2.out _ _ Hq2.out).2;rw[<-hg1];exact this);have hdm:kV Kn1 N<=kV Kn2 N:=kK (λy v hv=>⟨v,Hd2.out y v hv⟩) N;have hcD2:=uR Kn2 N;rw[hc0,hc1]at hb47;rw[hg0,hg1]at hbe7 ⊢;have hdp1:c1<=kV Kn2 N:=(by omega);have hne47:w6.heap.size≠w3.heap.size:=(by omega);have Hb47:=Lh hb47;have Hb67:=Lh hb67;have HI7:=Lh hI7;have Hbe7:=Lh hbe7;have Hbx7:=Lh hbx7;have Hc0:=Lh hc0;have Hc1:=Lh hc1;have Hg0:=Lh hg0;have Hg1:=Lh hg1;clear hb47 hb67 hI7 hbe7 hbx7 hc0 hc1 hg0 hg1 Hbr Hb6r HI2 HIr;obtain⟨m0,hm0⟩:∃m0,min (c0+g0) 301=m0:=⟨_,rfl⟩;obtain⟨m1,hm1⟩:∃m1,max c1 g1=m1:=⟨_,rfl⟩;have hmv0:(if (301:Int)<(c0:Int)+(g0:Int)then(301:Int)else(c0:Int)+g0)=(m0:Int):=by
       rw[Nat.min_def]at hm0;split at hm0 <;> split <;> omega
      have hmv1:(if c1<g1 then(g1:Int)else(c1:Int))=(m1:Int):=by
       rw[Nat.max_def]at hm1;split at hm1 <;> split <;> omega
      have hw4:IntKind.i64.wrap ((c0:Int)+(g0:Int))=(c0:Int)+(g0:Int):=IntWalk.i64_in _ (by omega);have Hw4:=Lh hw4;have Hmv1:=Lh hmv1;have Hmv0:=Lh hmv0;have Hm0:=Lh hm0;have Hm1:=Lh hm1;clear hmv0 hm0 hm1 hw4 hmv1;refine rg 15 (λL w'=>Upd w7 w' (λb=>b=w3.heap.size)/\(L.getD 12 false=false->Below w7.heap.size w7 w')) ?_;intro wd hwd hbd;refine⟨?_,λhS=>?_⟩
      . exact⟨Upd.low (hwd ▸ hbd) _,λ_=>hwd ▸ hbd⟩
      refine tk 0 (.pointer (some ⟨w3.heap.size,0,none⟩)) hS ?_ (λhS=>?_) (hins:=λL w=>by simp only[aB (l:=L) (i:=0) (k:=12) (by decide)])
      . intro w' L hn hw;have n12:=hn.flag 12 (by kernel_rfl);simp[execOp,go_sem]
      refine tk 1 (.int .i64 (c0:Nat)) hS ?_ (λhS=>?_) (hins:=λL w=>by simp only[aB (l:=L) (i:=1) (k:=12) (by decide)])
      . intro w' L hn hw;have hh:=(Hb47.out.low (hw.2 (hn.flag 12 (by kernel_rfl)))).cells;simp[execOp,go_sem,hh.1]
      refine tk 2 (.pointer (some ⟨w6.heap.size,0,none⟩)) hS ?_ (λhS=>?_) (hins:=λL w=>by simp only[aB (l:=L) (i:=2) (k:=12) (by decide)])
      . intro w' L hn hw;have n12:=hn.flag 12 (by kernel_rfl);simp[execOp,go_sem]
      refine tk 3 (.int .i64 (g0:Nat)) hS ?_ (λhS=>?_) (hins:=λL w=>by simp only[aB (l:=L) (i:=3) (k:=12) (by decide)])
      . intro w' L hn hw;have n12:=hn.flag 12 (by kernel_rfl);have hh:=(Hbe7.out.upd hw.1 hne47).cells;simp[execOp,go_sem,hh.1]
      refine tk 4 (.int .i64 ((c0:Int)+(g0:Int))) hS ?_ (λhS=>?_) (hins:=λL w=>by simp only[aB (l:=L) (i:=4) (k:=12) (by decide)])
      . intro w' L hn hw;have n12:=hn.flag 12 (by kernel_rfl);simp[execOp,go_sem,Hw4.out]
      refine tk 5 (.int .i64 (m0:Nat)) hS ?_ (λhS=>?_) (hins:=λL w=>by simp only[aB (l:=L) (i:=5) (k:=12) (by decide)])
      . intro w' L hn hw;have n12:=hn.flag 12 (by kernel_rfl);simp[execOp,go_sem,Hmv0.out]
      refine tk 6 (.pointer (some ⟨w3.heap.size,1,none⟩)) hS ?_ (λhS=>?_) (hins:=λL w=>by simp only[aB (l:=L) (i:=6) (k:=12) (by decide)])
      . intro w' L hn hw;have n12:=hn.flag 12 (by kernel_rfl);simp[execOp,go_sem]
      refine tk 7 (.int .i64 (c1:Nat)) hS ?_ (λhS=>?_) (hins:=λL w=>by simp only[aB (l:=L) (i:=7) (k:=12) (by decide)])
      . intro w' L hn hw;have hh:=(Hb47.out.low (hw.2 (hn.flag 12 (by kernel_rfl)))).cells;simp[execOp,go_sem,hh.2.1]
      refine ta 8 (.pointer (some ⟨w6.heap.size,1,none⟩)) hS (λhS=>?_) (hins:=λL w=>by simp only[aB (l:=L) (i:=8) (k:=12) (by decide)]);refine tk 9 (.int .i64 (g1:Nat)) hS ?_ (λhS=>?_) (hins:=λL w=>by simp only[aB (l:=L) (i:=9) (k:=12) (by decide)])
      . intro w' L hn hw;have hh:=(Hbe7.out.upd hw.1 hne47).cells;simp[execOp,go_sem,hh.2.1]
      refine tk 10 (.int .i64 (m1:Nat)) hS ?_ (λhS=>?_) (hins:=λL w=>by simp only[aB (l:=L) (i:=10) (k:=12) (by decide)])
      . intros;simp[execOp,go_sem,Hmv1.out]
      refine tk 11 (.pointer (some ⟨w3.heap.size,0,none⟩)) hS ?_ (λhS=>?_) (hins:=λL w=>by simp only[aB (l:=L) (i:=11) (k:=12) (by decide)])
      . intro w' L hn hw;have n12:=hn.flag 12 (by kernel_rfl);simp[execOp,go_sem]
      refine so 12 ?_;have hbx:=Hb47.out.low (hS.2 rfl);obtain⟨q0,q1,q2,q3⟩:=hbx.cells;have hset:=hbx.set01 (.int .i64 (m0:Nat)) (.int .i64 (m1:Nat));refine bF (w':=wd.setCell ⟨w3.heap.size,0,none⟩ (.int .i64 (m0:Nat))) (by simp[execOp,go_sem,q0,q3]) ?_;have hu12:Upd wd (wd.setCell ⟨w3.heap.size,0,none⟩ (.int .i64 (m0:Nat))) (λb=>b=w3.heap.size):=aM _;have q1':(wd.setCell ⟨w3.heap.size,0,none⟩ (.int .i64 (m0:Nat))).cell? ⟨w3.heap.size,1,none⟩=some (.int .i64 (c1:Nat)):=(World.cell?_setCell_other _ _ _ _ (by simp)).trans q1;have q3':(wd.setCell ⟨w3.heap.size,0,none⟩ (.int .i64 (m0:Nat))).frozen? ⟨w3.heap.size,1,none⟩=false:=by
       have:(wd.setCell ⟨w3.heap.size,0,none⟩ (.int .i64 (m0:Nat))).heap[w3.heap.size]? =some (.cells #[.int .i64 (m0:Nat),.int .i64 (c1:Nat),.bool false] 139 (0,0)):=(by simpa using heap_setCell_same wd w3.heap.size 0 _ _ (.int .i64 (m0:Nat)) hbx);exact frozen_of_row _ _ 1 _ _ this
      generalize wd.setCell ⟨w3.heap.size,0,none⟩ (.int .i64 (m0:Nat))=w8 at hset hu12 q1' q3' ⊢;refine gS ?_ λhS=>?_
      . exact⟨hS.1.trans hu12 (λ_ h=>.inl h),λh=>by cases h⟩
      refine ta 13 (.pointer (some ⟨w3.heap.size,1,none⟩)) hS (λhS=>?_) (hins:=λL w=>by simp only[aB (l:=L) (i:=13) (k:=12) (by decide)]);refine so 14 ?_;refine bF (w':=w8.setCell ⟨w3.heap.size,1,none⟩ (.int .i64 (m1:Nat))) (by simp[execOp,go_sem,q1',q3']) ?_;have hu14:Upd w8 (w8.setCell ⟨w3.heap.size,1,none⟩ (.int .i64 (m1:Nat))) (λb=>b=w3.heap.size):=aM _;generalize w8.setCell ⟨w3.heap.size,1,none⟩ (.int .i64 (m1:Nat))=w9 at hset hu14 ⊢;refine gS ?_ λhS=>?_
      . exact⟨hS.1.trans hu14 (λ_ h=>.inl h),λh=>by cases h⟩
      refine dn ?_;have hI9:=HI7.out.upd (X':=(λb=>(X b\/b=w.heap.size)\/b=w3.heap.size)) hS.1 (λb e=>.inl (.inr e)) (λb e=>.inl e);have hb69:=Hb67.out.upd hS.1 (by intro e;omega);have hu9:Upd w5 w9 (λb=>pB bj gm gk vt (.slice (some ⟨ga,0,none⟩) N ca) vp b\/b=w3.heap.size):=((Hur.out.trans Hup6.out (λi e=>.inl (.inl e))).trans (Upd.low Hbx7.out (λ_=>False)) (λ_ h=>h.elim)).trans hS.1 (λi e=>.inl (.inr e));have htr9:TreesR s.T s.As rep (l.take (k+1)) (xs++[x2]):=by
       rw[List.take_succ_eq_append_getElem hlt,Hq.out];exact Htr.out.snoc Hx.out
      have hs0:min (aI (xs++[x2])+1) 301=m0:=by
       rw[iF,<-Hm0.out,<-Hc0.out,<-Hg0.out];simp only[aI,lM,Nat.add_zero];rw[aG6]
      have hs1:bO (xs++[x2])=m1:=by
       rw[jV,<-Hm1.out,<-Hc1.out,<-Hg1.out];simp only[bO];omega
      have hd9:bO (xs++[x2])<=kV Kn2 N:=(by rw[hs1,<-Hm1.out];omega);have hbx9:=hset.1;rw[<-hs0,<-hs1]at hbx9;have HI9:=Lh hI9;have Hb69:=Lh hb69;have Hu9:=Lh hu9;have Htr9:=Lh htr9;have Hd9:=Lh hd9;have Hbx9:=Lh hbx9;clear hI9 hb69 hu9 htr9 hs0 hs1 hd9 hbx9 hset hS hu14 hu12 q0 q1 q2 q3 q1' q3' hbx hwd hbd;go_wp2_with fail;go_roundw
      case rel=>
       exact⟨k+1,by omega,by go_num,xs++[x2],Kn2,Htr9.out,Hbx9.out,Hb69.out,HI9.out,Hu9.out,Hk2.out,λy v hv=>Hd2.out y v (Hdn.out y v hv),λy=>(Hb2.out y).trans (Hbn.out y),Hd9.out⟩
      case measure=>simp[intOf];omega
    have HT:=Lh hT;clear hT;go_wp2_with (
     go_at_call 89
     refine(Hih.out (λb=>(X b\/b=w.heap.size)\/b=w3.heap.size) q Kn1 _ hcu HIr.out hqN Hkr.out Hpt.out).mono ?_;rintro e w6 ⟨hup6,hcase⟩;rcases hcase with⟨Kn2,x2,hI2,hx2,rfl,hk2,hd2,hb2,hq2⟩ | ⟨hno,Kn2,c0,c1,c2,hI2,rfl⟩
     . exact absurd ⟨x2,hx2⟩ HT.out
     have hz6:=hup6.size;have hb66:=(Hb6r.out.upd hup6 Hn6.out).low (aD w6 (.cells #[.int .i64 c0,.int .i64 c1,.bool c2] 139));have hb66':=hb66.cells;have q0:=hb66'.1;have q1:=hb66'.2.1;have q2:=hb66'.2.2.1;have q3:=hb66'.2.2.2;have Hup6:=Lh hup6;have HI2:=Lh hI2;have Hb66:=Lh hb66;clear hup6 hI2 hb66 hb66')
    have hset:=Hb66.out.set (.int .i64 0) (.int .i64 0) (.bool false);have hfi:=(HI2.out.low (aD w6 (.cells #[.int .i64 c0,.int .i64 c1,.bool c2] 139))).upd (X':=X) hset.2 (λb e=>.inl (.inl (.inr e))) (λb e=>.inl (.inl (.inl e)));have hfu:Upd w _ (pB bj gm gk vt (.slice (some ⟨ga,0,none⟩) N ca) vp):=((((Hu5.out.trans Hur.out (λi e=>by rcases e with e | e;exact .inl e;exact .inr (by omega))).trans Hup6.out (λi e=>.inl e)).alloc (.cells #[.int .i64 c0,.int .i64 c1,.bool c2] 139)).trans hset.2 (λi e=>.inr (by omega)));generalize (((w6.alloc (.cells #[.int .i64 c0,.int .i64 c1,.bool c2] 139)).setCell ⟨w.heap.size,0,none⟩ (.int .i64 0)).setCell ⟨w.heap.size,1,none⟩ (.int .i64 0)).setCell ⟨w.heap.size,2,none⟩ (.bool false)=w9 at hset hfi hfu ⊢;obtain⟨p0,p1,p2,-⟩:=hset.1.cells;refine bodyPost_ret (v:=.tuple #[.agg #[.int .i64 0,.int .i64 0,.bool false],.bool false]) (by simp[results,Try.results89,go_sem,p0,p1,p2]) rfl ⟨hfu,.inr ⟨?_,Kn2,0,0,false,hfi,rfl⟩⟩;rintro⟨x,hx⟩;cases hx with
    | mk _ f ys hf hy=>
     obtain⟨y,hy1,-⟩:=hy.mem (n:=q) (by have:=Hmem.out;rw[Hrr.out]at this;rw[Hr.out];exact this);exact HT.out ⟨y,hy1⟩
  obtain rfl:k=l.length:=by omega
  rw[List.take_length]at htr;have htree:TreeR s.T s.As rep n (.mk (bT s.T r) xs):=.mk _ _ _ (by rw[Hr.out]) (by rw[Hr.out,Hasr.out];exact htr);obtain⟨c0,hc0⟩:∃c0,min (aI xs+1) 301=c0:=⟨_,rfl⟩;obtain⟨c1,hc1⟩:∃c1,bO xs=c1:=⟨_,rfl⟩;rw[hc0,hc1]at hbr;have hfa:gX (.mk (bT s.T r) xs)=(c0,c1+1):=by unfold gX lM;simp only[aK,dF,hc0,hc1]
  have hc1b:c1<=1000000:=by omega
  obtain⟨q0,q1,q2,q3⟩:=hbr.cells;have hset:=hbr.set1 (.int .i64 ((c1:Int)+1));have hn6:=hIr.nX (b:=w.heap.size) (.inl (.inr rfl));have hn4:=hIr.nX (b:=w3.heap.size) (.inr rfl);have hI1:=hIr.upd (X':=(λb=>(X b\/b=w.heap.size)\/b=w3.heap.size)) hset.2 (λb e=>.inl (.inr e)) (λb e=>.inl e);have hb61:=hb6r.upd hset.2 (by intro e;omega);have hI1':=hI1;obtain⟨-,-,-,hm1,-⟩:=hI1';have hbx1:=hset.1;have hu1:Upd w _ (pB bj gm gk vt (.slice (some ⟨ga,0,none⟩) N ca) vp):=(Hu5.out.trans hur (λi e=>by rcases e with e | e;exact .inl e;exact .inr (by omega))).trans hset.2 (λi e=>.inr (by omega));have HI1:=Lh hI1;have Hb61:=Lh hb61;have Hm1:=Lh hm1;have Hbx1:=Lh hbx1;have Hu1:=Lh hu1;have Htree:=Lh htree;have Hfa:=Lh hfa;have Hkr:=Lh hkr;have Hdn:=Lh hdn;have Hbn:=Lh hbn;have Hdp:=Lh hdp;have Hc1:=Lh hc1;have Hn6:=Lh hn6;clear htree hfa hI1 hb61 hm1 hbx1 hset hIr hb6r hbr hur hkr hdn hbn htr hn6 hn4 hu1 v3 z1 hc0 hc1 hdp;go_upto_region 16 with fail
  obtain⟨j0,j1,j2,j3⟩:=Hbx1.out.cells;clear q0 q1 q2 q3;generalize wr.setCell ⟨w3.heap.size,1,none⟩ (.int .i64 ((c1:Int)+1))=w6 at HI1 Hb61 Hm1 Hbx1 Hu1 j0 j1 j2 j3 ⊢;go_upto_region 17 with(
   at_mapUpdate
   refine cZ rfl (.tmp 73) (.tmp 74) (.tmp 75) rfl fT Try.underlying137 rfl (r:Int) rfl (.agg #[.int .i64 (c0:Nat),.int .i64 ((c1:Int)+1),.bool false]) rfl (by exact Hm1.out) ?_;intro w8 hm8 hu8;have Hm8:=Lh hm8;have Hu8:=Lh hu8;clear hm8 hu8)
  have hI8:fV B (λb=>(X b\/b=w.heap.size)\/b=w3.heap.size) bj gm gk s rep d N (λy=>if y=(r:Int)then some (some (c0,c1+1))else Kn1 y) vt (.slice (some ⟨ga,0,none⟩) N ca) vp w8:=HI1.out.known (some (c0,c1+1)) (by have:=Hm8.out;simpa [nS]using this) Hu8.out;have hne3:¬(w3.heap.size=gk):=λe=>(HI1.out.nX (b:=w3.heap.size) (.inr rfl)) (.inr e)
  have hbx8:=Hbx1.out.upd Hu8.out hne3;have hb68:=Hb61.out.upd Hu8.out (λe=>Hn6.out (.inr e));have hset:=hb68.set (.int .i64 (c0:Nat)) (.int .i64 ((c1:Int)+1)) (.bool false);have hfi:=hI8.upd (X':=X) hset.2 (λb e=>.inl (.inl (.inr e))) (λb e=>.inl (.inl (.inl e)));have hfu:=(Hu1.out.trans Hu8.out (λi e=>.inl (.inr e))).trans hset.2 (λi e=>.inr (by omega));obtain⟨k0,k1,k2,-⟩:=hbx8.cells;obtain⟨y0,y1,y2,y3⟩:=hb68.cells;have Hset:=Lh hset;have Hfi:=Lh hfi;have Hfu:=Lh hfu;clear hI8 hbx8 hb68 hset hfi hfu j0 j1 j2 j3 Hm8 Hu8 HI1 Hb61 Hm1 Hbx1 Hu1;go_wp2_with fail;obtain⟨p0,p1,p2,-⟩:=Hset.out.1.cells;refine bodyPost_ret (v:=.tuple #[.agg #[.int .i64 (c0:Nat),.int .i64 ((c1:Int)+1),.bool false],.bool true]) (by simp[results,Try.results89,go_sem,p0,p1,p2]) rfl ⟨Hfu.out,.inl ⟨_,.mk (bT s.T r) xs,Hfi.out,Htree.out,?_,?_,?_,?_,?_⟩⟩
  . have h1:=Hfa.out;unfold gX at h1;injection h1 with h1 h2
    rw[h1,h2];rfl
  . have hnd:∀p,Kn1 (r:Int)≠some (some p):=λp hp=>by
     have:=(Hbn.out r).2 (.inl rfl);rw[this]at hp;cases hp
    have hlt:=wG hnd (c0,c1+1) N hrN;have hdp:=Hdp.out;have hc1:=Hc1.out;intro m p hp0;have hp:(if (m:Int)=(r:Int)then some (some (c0,c1+1))else Kn1 (m:Int))=some (some p):=hp0;clear hp0;by_cases hm:(m:Int)=(r:Int)
    . rw[if_pos hm]at hp;obtain rfl:m=r:=by omega
      have hp:(c0,c1+1)=p:=Option.some.inj (Option.some.inj hp);refine⟨⟨_,Htree.out.of_rep (by rw[Hr.out,Hrr.out]),by rw[Hfa.out,hp]⟩,?_⟩;rw[<-hp];show c1+1<=_
      omega
    rw[if_neg hm]at hp;obtain⟨h1,h2⟩:=Hkr.out m p hp;exact⟨h1,by omega⟩
  . intro y v hv;rw[if_neg (λe=>by rw[e,HK.out]at hv;cases hv)];exact Hdn.out y v hv
  . intro y;by_cases hy:y=r
    . subst hy;simp[HK.out]
    have:¬((y:Int)=(r:Int)):=λe=>hy (by omega)
    rw[if_neg this,Hbn.out y];simp[hy]
  rw[Hr.out,Hfa.out];simp
def aF7 (B:Nat)(X:Nat->Prop)(bj gm:Nat)(s:JS)(rep d:Nat->Nat)(N:Nat)(x:Tm)(vt va vp:Value)(w:World)(e:Ending)(w':World):Prop:=
 ∃A c,e=.returned (.agg #[.int .i64 x.fn,.slice A x.args.length c])/\RdP w' (λb=>w.heap.size<=b) (.sl 2 (aH x.args)) (.slice A x.args.length c)/\
  ∃Ps',JR B X bj gm ⟨s.T,s.As,Ps',s.V⟩ vt va vp w'/\JGrow bj gm vt va vp vt va vp w w'/\Forest Ps' rep d/\Ps'.length=N
theorem yI (B bj gm:Nat)(s:JS)(rep d:Nat->Nat)(N:Nat)(vt va vp:Value)(hok:s.Ok)(hN:s.T.length=N)(hz:N<=1000000)(D:Nat):
 ∀(X:Nat->Prop) (x:Tm) (n:Nat) (Ps:List Nat) (w:World),aK x<D->aK x<=1000000->TreeR s.T s.As rep n x->JR B X bj gm ⟨s.T,s.As,Ps,s.V⟩ vt va vp w->Forest Ps rep d->Ps.length=N->n<N->
 Calls Try.prog 91 #[.pointer (some ⟨bj,0,none⟩),.int .i64 (n:Nat)] w (λe w'=>aF7 B X bj gm s rep d N x vt va vp w e w'/\w'.heap[gm]? =w.heap[gm]?):=by
 induction D with
 | zero=>intro X x n Ps w h;omega
 | succ D ih=>
 intro X x n Ps w hD hxs hx hj hf hl hn;have hbjw:=(hj.own bj (.inl rfl)).2;have hBj:=hj.hB;have hjo:=hj.own;have Hjo:=Lh hjo;have Hih:=Lh ih;have Hx:=Lh hx;have Hj:=Lh hj;have Hf:=Lh hf;have Hl:=Lh hl;have Hok:=Lh hok;have HN:=Lh hN;clear ih hx hj hf hl hok hN hjo;obtain⟨hx0,hB0,hz0⟩:=pT w (.cells #[.int .i64 0,.slice none 0 0] 87);have hp0:n<Ps.length:=by rw[Hl.out];exact hn
 have hp1:Ps.length<=1000000:=by rw[Hl.out];exact hz
 go_enter Try.func91,Try.ntmps91;go_upto_region 1 with fail
 generalize w.alloc (.cells #[.int .i64 0,.slice none 0 0] 87)=w0 at hx0 hB0 hz0 ⊢;have hb4:aL w.heap.size 87 (.int .i64 0) (.slice none 0 0) w0:=hx0;have hj0:JR B (λb=>X b\/b=w.heap.size) bj gm ⟨s.T,s.As,Ps,s.V⟩ vt va vp w0:=Hj.out.updX (Upd.low hB0 (λ_=>False)) (λ_ h=>h.elim) (λb e=>e.imp id (λe=>by omega));have Hj0:=Lh hj0;have Hb4:=Lh hb4;have HB0:=Lh hB0;clear hx0 hj0 hb4 hB0;go_upto_region 2 with(
  go_at_call 90
  refine(oH B (λb=>X b\/b=w.heap.size) bj gm ⟨s.T,s.As,Ps,s.V⟩ rep d n vt va vp _ Hj0.out Hf.out hp0).mono ?_;rintro e w1 ⟨⟨rfl,Ps1,hj1,hg1,hf1,hl1⟩,hgk1⟩;have Hgk1:=Lh hgk1;clear hgk1;have Hj1:=Lh hj1;have Hg1:=Lh hg1;have Hf1:=Lh hf1;have Hl1:=Lh hl1;clear hj1 hg1 hf1 hl1)
 have hnb4:¬JF bj gm vt va vp w.heap.size:=λe=>by have:=(Hjo.out _ e).2;omega
 obtain⟨r,hr⟩:∃r,rep n=r:=⟨_,rfl⟩;have hl1:Ps1.length=N:=by have h1:Ps1.length=Ps.length:=Hl1.out;rw[h1,Hl.out]
 obtain⟨hrN,hrr⟩:=Hf1.out.rep' (i:=n) (by omega);rw[hl1]at hrN;rw[hr]at hrN hrr ⊢;have hrT:r<s.T.length:=by rw[HN.out];exact hrN
 have hA:s.As.length=N:=by have:=Hok.out.a;have:=HN.out;omega
 have hrA:r<s.As.length:=by rw[hA];exact hrN
 have hb41:=Hb4.out.upd Hg1.out.upd hnb4;obtain⟨gt,ct,Aq,nq,hvt,t0,-,-⟩:=Hj1.out.tm_at (k:=r) hrT;dsimp only at hvt
 rw[HN.out]at hvt;subst hvt;obtain⟨ga,ca,ur,hva,v3,-,hrx⟩:=Hj1.out.args_at (k:=r) hrA;dsimp only at hva
 rw[hA]at hva;subst hva;obtain⟨Ar,cr,rfl,-⟩:=hrx.rd'.sl_form;rw[List.length_map]at v3 hrx;obtain⟨l,hl⟩:∃l,s.As[r]=l:=⟨_,rfl⟩;simp only[hl]at v3 hrx;obtain⟨f,hfr⟩:∃f,s.T[r].fn=f:=⟨_,rfl⟩;simp only[hfr]at t0;have hfn:bT s.T r=f:=by unfold bT;rw[List.getElem?_eq_getElem hrT];exact hfr
 have hasr:bV s.As r=l:=by unfold bV;rw[List.getElem?_eq_getElem hrA];exact hl
 obtain⟨xs,rfl,htr⟩:∃xs,x=.mk f xs/\TreesR s.T s.As rep l xs:=by
  cases Hx.out with
  | mk _ g xs hg hy=>exact⟨xs,by rw[hg,hr,hfn],by rw[hr,hasr]at hy;exact hy⟩
 have hllx:=htr.len;obtain⟨z0,z1,-,-,-⟩:=Hj1.out.cells;have hri:¬((N:Int)<=(r:Int)):=by omega
 have hlN:∀m∈l,m<N:=λm hm=>by have:=Hok.out.ax l (by rw[<-hl];exact List.getElem_mem hrA) m hm;rw[HN.out]at this;exact this
 have hz1:=Hg1.out.upd.size;have hju:∀g,JF bj gm (.slice (some ⟨gt,0,none⟩) N ct) (.slice (some ⟨ga,0,none⟩) N ca) vp g->g<w.heap.size/\B<=g:=λg e=>⟨(Hjo.out g e).2,(Hjo.out g e).1⟩
 have hgtw:=(hju gt (.inr (.inr (.inl rfl)))).1;have hgaw:=(hju ga (.inr (.inr (.inr (.inl rfl))))).1;have HlN:=Lh hlN;have Htr:=Lh htr;have Hrx:=Lh hrx;have Hb41:=Lh hb41;have Hju:=Lh hju;have Hlx:=Lh hllx;clear hlN htr hrx hb41 hju hr hl hfn hasr hfr hA hllx hnb4 hl1 hrr Hb4 Hj0;simp only[aK]at hD hxs;go_upto_region 3 with fail
 have hbx2:=aD w1 (.cells #[.int .i64 f,.slice none 0 0] 87);have hbe2:aL w1.heap.size 87 (.int .i64 f) (.slice none 0 0) (w1.alloc (.cells #[.int .i64 f,.slice none 0 0] 87)):=heap_alloc_new w1 _;have hz2:(w1.alloc (.cells #[.int .i64 f,.slice none 0 0] 87)).heap.size=w1.heap.size+1:=by simp
 generalize w1.alloc (.cells #[.int .i64 f,.slice none 0 0] 87)=w2 at hbx2 hbe2 hz2 ⊢;have hj2:JR B (λb=>((X b\/b=w.heap.size)\/b=w1.heap.size)\/(Value.slice none 0 0).ownBlock=some b) bj gm ⟨s.T,s.As,Ps1,s.V⟩ (.slice (some ⟨gt,0,none⟩) N ct) (.slice (some ⟨ga,0,none⟩) N ca) vp w2:=
  Hj1.out.updX (Upd.low hbx2 (λ_=>False)) (λ_ h=>h.elim) (λb e=>by
   rcases e with(e | e) | e
   . exact .inl e
   . exact .inr (by omega)
   cases e)
 have hb42:=Hb41.out.low hbx2;have v3':=(hbx2.cell (p:=⟨ga,r,none⟩) (by show ga<w1.heap.size;omega)).trans v3;have z1':=(hbx2.cell (p:=⟨bj,1,none⟩) (by show bj<w1.heap.size;omega)).trans z1;have hg2:JGrow bj gm (.slice (some ⟨gt,0,none⟩) N ct) (.slice (some ⟨ga,0,none⟩) N ca) vp (.slice (some ⟨gt,0,none⟩) N ct) (.slice (some ⟨ga,0,none⟩) N ca) vp w w2:=((JGrow.low HB0.out).trans Hg1.out).trans (JGrow.low hbx2);have hl1:Ps1.length=N:=by have h1:Ps1.length=Ps.length:=Hl1.out;rw[h1,Hl.out]
 have Hl1N:=Lh hl1;have Hj2:=Lh hj2;have Hb42:=Lh hb42;have Hbe2:=Lh hbe2;have Hg2:=Lh hg2;have Hbx2:=Lh hbx2;have hgmw:=(Hju.out gm (.inr (.inl rfl))).1;have hgk2:w2.heap[gm]? =w.heap[gm]? :=((hbx2.block gm (by omega)).trans Hgk1.out).trans (HB0.out.block gm (by omega));have Hgk2:=Lh hgk2;clear hj2 hb42 hbe2 hbx2 hgk2 Hgk1 v3 z1 z0 t0 hg2 hl1 Hb41 Hj1 Hg1 Hl1;go_wp2_with fail;go_loopw [28] (λi wr=>∃k:Nat,k<=l.length/\i=.int .i64 k/\∃u Ps2,aL w1.heap.size 87 (.int .i64 f) u wr/\bC wr (λ_=>False) w2.heap.size 51 2 u (aH (xs.take k))/\
  JR B (λb=>((X b\/b=w.heap.size)\/b=w1.heap.size)\/u.ownBlock=some b) bj gm ⟨s.T,s.As,Ps2,s.V⟩ (.slice (some ⟨gt,0,none⟩) N ct) (.slice (some ⟨ga,0,none⟩) N ca) vp wr/\Upd w2 wr (λb=>JF bj gm (.slice (some ⟨gt,0,none⟩) N ct) (.slice (some ⟨ga,0,none⟩) N ca) vp b\/b=w1.heap.size)/\Forest Ps2 rep d/\Ps2.length=N/\aL w.heap.size 87 (.int .i64 0) (.slice none 0 0) wr/\wr.heap[gm]? =w.heap[gm]?) (λi _=>l.length-(intOf i).toNat)
 case atStart=>exact⟨0,Nat.zero_le _,rfl,_,Ps1,Hbe2.out,bC.nil _ _ _ _ _,Hj2.out,Upd.refl _ _,Hf1.out,Hl1N.out,Hb42.out,Hgk2.out⟩
 obtain⟨k,hk,rfl,u,Ps2,hbu,hown,hjr,hur,hfr,hlr,hb4r,hgkr⟩:=hrel;have Hgkr:=Lh hgkr;clear hgkr;have hzr:=hur.size;have huo:=hown.lt;have hjX:=hjr.hX;have hlx:=Hlx.out;by_cases hlt:k<l.length
 . obtain⟨ab,off,rfl,hP,hlt2,i3⟩:=Hrx.out.ns_at hlt;obtain⟨q,hq⟩:∃q,l[k]=q:=⟨_,rfl⟩;rw[hq]at i3;have i3r:=(World.cell?_of_block (a:=⟨ab,off+k,none⟩) (hur.block ab (by omega) (λe=>by
    rcases e with e | e
    . exact hP.2.1 e
    omega))).trans ((Hbx2.out.cell (p:=⟨ab,off+k,none⟩) hlt2).trans i3)
   have hqN:q<N:=HlN.out q (by rw[<-hq];exact List.getElem_mem hlt);have hltx:k<xs.length:=by omega
   have hxk:=Htr.out.at_ hlt hltx;rw[hq]at hxk;have h1:=aZ hltx;obtain⟨t,ht⟩:∃t,xs[k]=t:=⟨_,rfl⟩;rw[ht]at hxk h1;have hlz:=bL xs;have hlk:(aH (xs.take k)).length=k:=by rw[bG,List.length_take];omega
   have hsn:aH (xs.take (k+1))=aH (xs.take k)++[bB t]:=by
    rw[List.take_succ_eq_append_getElem hltx,bS,bS,List.map_append,ht];rfl
   have ht1:aK t<D:=by omega
   have ht2:aK t<=1000000:=by omega
   have Hbu:=Lh hbu;have Hown:=Lh hown;have Hjr:=Lh hjr;have Hur:=Lh hur;have Hfr:=Lh hfr;have Hlr:=Lh hlr;have Hb4r:=Lh hb4r;have Hxk:=Lh hxk;have Hlk:=Lh hlk;have Hsn:=Lh hsn;have HjX:=Lh hjX;clear hbu hown hjr hur hfr hlr hb4r hxk hlk hsn i3 hP hq ht hjX v3' z1';go_upto_region 6 with fail
   refine rg 9 (λL w'=>Upd wr w' (λb=>JF bj gm (.slice (some ⟨gt,0,none⟩) N ct) (.slice (some ⟨ga,0,none⟩) N ca) vp b\/b=w1.heap.size\/u.ownBlock=some b)/\(L.getD 8 false=false->aL w1.heap.size 87 (.int .i64 f) u w')) ?_;intro wd hwd hbd;refine⟨?_,λhS=>?_⟩
   . exact⟨Upd.low (hwd ▸ hbd) _,λ_=>Hbu.out.low (hwd ▸ hbd)⟩
   refine tk 0 (.pointer (some ⟨w1.heap.size,1,none⟩)) hS ?_ (λhS=>?_) (hins:=λL w=>by simp only[aB (l:=L) (i:=0) (k:=8) (by decide)])
   . intro w' L hn hw;have n8:=hn.flag 8 (by kernel_rfl);simp[execOp,go_sem]
   refine tk 1 (u) hS ?_ (λhS=>?_) (hins:=λL w=>by simp only[aB (l:=L) (i:=1) (k:=8) (by decide)])
   . intro w' L hn hw;have hh:=(hw.2 (hn.flag 8 (by kernel_rfl))).cells;simp[execOp,go_sem,hh.2.1]
   refine ta 2 (.pointer (some ⟨bj,0,none⟩)) hS (λhS=>?_) (hins:=λL w=>by simp only[aB (l:=L) (i:=2) (k:=8) (by decide)]);refine ta 3 (.int .i64 (q:Nat)) hS (λhS=>?_) (hins:=λL w=>by simp only[aB (l:=L) (i:=3) (k:=8) (by decide)]);refine so 4 ?_;have hc4:=Hih.out (λb=>((X b\/b=w.heap.size)\/b=w1.heap.size)\/u.ownBlock=some b) t q Ps2 wd ht1 ht2 Hxk.out (Hjr.out.low (hwd ▸ hbd)) Hfr.out Hlr.out hqN;refine aG ?_ hc4 ?_
   . simp[execOp,resolve,invoke,go_sem]
   rintro e w6 ⟨⟨At,nt,rfl,hrt,Ps3,hj6,hg6,hf6,hl6⟩,hgk6⟩;have Hgk6:=Lh hgk6;clear hgk6;have hn5:¬JF bj gm (.slice (some ⟨gt,0,none⟩) N ct) (.slice (some ⟨ga,0,none⟩) N ca) vp w1.heap.size:=(HjX.out _ (.inl (.inr rfl))).1;refine⟨_,rfl,?_⟩;refine gS ?_ λhS=>?_
   . exact⟨hS.1.trans hg6.upd (λ_ h=>.inl (.inl h)),λ_=>(hS.2 rfl).upd hg6.upd hn5⟩
   refine so 5 ?_;refine aE (v:=.slice (some ⟨w6.heap.size,0,none⟩) 1 1) (w':=w6.alloc (.cells #[.int .i64 t.fn,.slice At t.args.length nt] 51)) (by simp[execOp,go_sem]) ?_;have hg8:=heap_alloc_new w6 (.cells #[.int .i64 t.fn,.slice At t.args.length nt] 51);have hb8:=aD w6 (.cells #[.int .i64 t.fn,.slice At t.args.length nt] 51);generalize w6.alloc (.cells #[.int .i64 t.fn,.slice At t.args.length nt] 51)=w8 at hg8 hb8 ⊢;refine gS ?_ λhS=>?_
   . exact⟨hS.1.trans (Upd.low hb8 (λ_=>False)) (λ_ h=>h.elim),λ_=>(hS.2 rfl).low hb8⟩
   refine sl 6 ?_;have hz6:=hg6.upd.size;have hz8:=hb8.size;have hzd:wd.heap.size=wr.heap.size:=by rw[hwd]
   have hown8:bC w8 (λ_=>False) w2.heap.size 51 2 u (aH (xs.take k)):=((Hown.out.low (hwd ▸ hbd:Below wr.heap.size wr wd)).upd hg6.upd (λb hb _ e=>by
    have:=(Hju.out b e).1;rcases hb with hb | hb
    . exact hb
    omega)).low hb8
   refine cK w8 rfl (.tmp 33) (.tmp 37) _ rfl oX (M:=λ_=>False) (base:=w2.heap.size) (v:=u) (trs:=aH (xs.take k)) (by simp[go_sem]) hown8 (g:=w6.heap.size) (by simp[go_sem]) hg8 rfl (by intro y hy;simp at hy;rcases hy with rfl | rfl <;> rfl) (by rw[Hlk.out];omega) (by rw[Hlk.out];unfold maxLen;omega) (by omega) (bB t) (by rcases t with⟨tf,ta⟩;rfl) ?_ ?_
   . intro j h h';have hj2:j<2:=h';rcases t with⟨tf,ta⟩
     rcases(by omega:j=0\/j=1)with rfl | rfl
     . exact .leaf _
     exact(hrt.low hb8).more λb hb _=>⟨.inr (by have:wd.heap.size<=b:=hb;omega),λe=>by have:=(huo _ e).2;have:wd.heap.size<=b:=hb;omega⟩
   intro v' w9 hown' hup' hat';obtain⟨Av,cv,hv',-,-⟩:=hown'.form;have hbu9:aL w1.heap.size 87 (.int .i64 f) u w9:=((hS.2 rfl)).upd hup' (λe=>by have:=(huo _ e).1;omega);refine gL ?_ λhS=>?_
   . exact⟨hS.1.trans hup' (λ_ h=>.inl (.inr (.inr h))),λ_=>hbu9⟩
   refine tk 7 (.pointer (some ⟨w1.heap.size,1,none⟩)) hS ?_ (λhS=>?_) (hins:=λL w=>by simp only[aB (l:=L) (i:=7) (k:=8) (by decide)])
   . intro w' L hn hw;have n8:=hn.flag 8 (by kernel_rfl);simp[execOp,go_sem]
   refine so 8 ?_;obtain⟨q0,q1,q2⟩:=hbu9.cells;have hpt:=hbu9.put1 v';rw[hv']at hpt ⊢;refine bF (w':=w9.setCell ⟨w1.heap.size,1,none⟩ (.slice Av (aH (xs.take k)++[bB t]).length cv)) (by simp[execOp,go_sem,q1,q2]) ?_;have hu10:Upd w9 (w9.setCell ⟨w1.heap.size,1,none⟩ (.slice Av (aH (xs.take k)++[bB t]).length cv)) (λb=>b=w1.heap.size):=aM _;rw[<-hv']at hpt hu10 ⊢;generalize w9.setCell ⟨w1.heap.size,1,none⟩ v'=w10 at hpt hu10 ⊢;refine gS ?_ λhS=>?_
   . exact⟨hS.1.trans hu10 (λ_ h=>.inl (.inr (.inl h))),λh=>by cases h⟩
   refine dn ?_;have hj8:=(hj6.low hb8).updX (X':=λb=>((X b\/b=w.heap.size)\/b=w1.heap.size)\/v'.ownBlock=some b) hup' (λb e=>⟨by have:=(huo b e).1;have:=(Hju.out bj (.inl rfl));omega,.inl (.inr e)⟩) (λb e=>by
    rcases e with e | e
    . exact .inl (.inl e)
    rcases hat' with e2 | e2
    . exact .inl (.inr (e2 ▸ e))
    have e3:=e;rw[e2]at e;injection e with e
    exact .inr ⟨by omega,(hown'.lt b e3).2⟩)
   have hj10:=hj8.updX (X':=λb=>((X b\/b=w.heap.size)\/b=w1.heap.size)\/v'.ownBlock=some b) hu10 (λb e=>⟨by have:=(Hju.out bj (.inl rfl));omega,.inl (.inl (.inr e))⟩) (λb e=>.inl e);have hown10:=hown'.upd hu10 (λb hb _ e=>by
    rcases hb with hb | hb
    . exact hb
    omega)
   have hu2:Upd w2 w10 (λb=>JF bj gm (.slice (some ⟨gt,0,none⟩) N ct) (.slice (some ⟨ga,0,none⟩) N ca) vp b\/b=w1.heap.size):=Hur.out.trans hS.1 (λi e=>by
    rcases e with e | e | e
    . exact .inl (.inl e)
    . exact .inl (.inr e)
    exact .inr (huo i e).1)
   have hb410:=Hb4r.out.upd hS.1 (λe=>by
    rcases e with e | e | e
    . have:=(Hju.out _ e).1;omega
    . omega
    have:=(huo _ e).1;omega)
   have hl3:Ps3.length=N:=hl6;rw[<-Hsn.out]at hown10;have hz6':=hg6.upd.size;have hz8':=hb8.size;have hz9':=hup'.size;have hwds:wd.heap.size=wr.heap.size:=by rw[hwd]
   have hgk10:w10.heap[gm]? =w.heap[gm]? :=((((hu10.block gm (by omega) (by omega)).trans (hup'.block gm (by omega) (λe=>by have:=(huo gm e).1;omega))).trans (hb8.block gm (by omega))).trans Hgk6.out).trans ((congrArg (λh=>h[gm]?) hwd).trans Hgkr.out);have Hgk10:=Lh hgk10;clear hgk10 Hgk6 Hgkr hz6' hz8' hz9' hwds;have Hj10:=Lh hj10;have Hown10:=Lh hown10;have Hu2:=Lh hu2;have Hb410:=Lh hb410;have Hpt:=Lh hpt;have Hf6:=Lh hf6;have Hl6:=Lh hl3;clear hj8 hj10 hown10 hu2 hb410 hl3 hl6 hf6 hj6 hg6 hrt hpt hu10 hown' hup' hat' hv' hbu9 hg8 hb8 hS q0 q1 q2 hwd hbd;go_wp2_with fail;go_roundw
   case rel=>exact⟨k+1,by omega,by go_num,v',Ps3,Hpt.out,Hown10.out,Hj10.out,Hu2.out,Hf6.out,Hl6.out,Hb410.out,Hgk10.out⟩
   case measure=>simp[intOf];omega
 obtain rfl:k=l.length:=by omega
 have htk:xs.take l.length=xs:=List.take_of_length_le (by omega);rw[htk]at hown;obtain⟨Au,cu,hu,-,-⟩:=hown.form;rw[bG]at hu;have hlzs:=bL xs;have hread:=(hown.rd (by rw[bG];omega));obtain⟨c0,c1,-⟩:=hbu.cells;obtain⟨m0,m1,m2⟩:=hb4r.cells;subst hu;have hset:=hb4r.set (.int .i64 f) (.slice Au xs.length cu);have hj9:=hjr.updX (X':=X) hset.2 (λb e=>⟨by have:=hBj;omega,.inl (.inl (.inl (.inr e)))⟩) (λb e=>.inl (.inl (.inl (.inl e))));have hg9:JGrow bj gm (.slice (some ⟨gt,0,none⟩) N ct) (.slice (some ⟨ga,0,none⟩) N ca) vp (.slice (some ⟨gt,0,none⟩) N ct) (.slice (some ⟨ga,0,none⟩) N ca) vp w (((wr.setCell ⟨w.heap.size,0,none⟩ (.int .i64 f)).setCell ⟨w.heap.size,1,none⟩ (.slice Au xs.length cu))):=
  ⟨(Hg2.out.upd.trans hur (λi e=>by rcases e with e | e;exact .inl e;exact .inr (by omega))).trans hset.2 (λi e=>.inr (by omega)),λ_ e=>.inl e⟩
 have hr9:=hread.upd hset.2 (λb hb _ e=>by rcases hb with hb | hb;exact hb;omega);have Hset:=Lh hset.1;have Hj9:=Lh hj9;have Hg9:=Lh hg9;have Hr9:=Lh hr9;have Hfr:=Lh hfr;have Hlr:=Lh hlr;have Hu9:=Lh hset.2;clear hset hj9 hg9 hr9 hread hfr hlr hown hbu hb4r hjr hur htk hjX;go_wp2_with fail;obtain⟨j0,j1,-⟩:=Hset.out.cells;refine bodyPost_ret (v:=.agg #[.int .i64 f,.slice Au xs.length cu]) (by simp[results,Try.results91,go_sem,j0,j1]) rfl ⟨⟨Au,cu,rfl,Hr9.out.more (λb hb _=>by rcases hb with hb | hb;exact hb.elim;omega),Ps2,Hj9.out,Hg9.out,Hfr.out,Hlr.out⟩,?_⟩;exact(Hu9.out.block gm (by omega) (by omega)).trans Hgkr.out
theorem aD5 {K:Type} [DecidableEq K] {P:Program} {w:World} {t k e:TypeId} {enc:K->Value} (hT:KeyTy P k enc)(ht:P.underlying t=some (.map k e)) {z:Value} (hz:(zeroValue e).run P w=.ok z w)(x:K)(c:Bool):
 (Instr.lookup t (.map none) (enc x) c).run P w=.ok (if c then .tuple #[z,.bool false]else z) w:=by
 have h1:=hT.find w x [] [] rfl;simp[Instr.lookup,run_underlying ht,hT.check,h1,bD,hz,Result.andThen]
def gB (w:World)(P:Nat->Prop)(mv:Value)(σ:Int->Option Tm):Prop:=
 (mv=.map none/\∀x,σ x=none)\/
 ∃(g:Nat) (vals:Int->Value),mv=.map (some g)/\bK w g cE (λx=>(σ x).map λt=>.agg #[.int .i64 t.fn,vals x])/\∀x t,σ x=some t->RdP w P (.sl 2 (aH t.args)) (vals x)
theorem gB.low {w w':World} {P:Nat->Prop} {mv:Value} {σ:Int->Option Tm} (h:gB w P mv σ)(hb:Below w.heap.size w w'):gB w' P mv σ:=by
 rcases h with h | ⟨g,vals,h1,h2,h3⟩
 . exact .inl h
 exact .inr ⟨g,vals,h1,h2.low hb,λx t hx=>(h3 x t hx).low hb⟩
theorem gB.more {w:World} {P P':Nat->Prop} {mv:Value} {σ:Int->Option Tm} (h:gB w P mv σ)(hP:∀b,P b->b<w.heap.size->P' b):gB w P' mv σ:=by
 rcases h with h | ⟨g,vals,h1,h2,h3⟩
 . exact .inl h
 exact .inr ⟨g,vals,h1,h2,λx t hx=>(h3 x t hx).more hP⟩
theorem gB.upd {w w':World} {P F:Nat->Prop} {mv:Value} {σ:Int->Option Tm} (h:gB w P mv σ)(hu:Upd w w' F)(hF:∀b,P b->b<w.heap.size->¬F b)(hm:∀g,mv=.map (some g)->¬F g):gB w' P mv σ:=by
 rcases h with h | ⟨g,vals,h1,h2,h3⟩
 . exact .inl h
 exact .inr ⟨g,vals,h1,h2.upd hu (hm g h1),λx t hx=>(h3 x t hx).upd hu hF⟩
theorem iT (w:World):(zeroValue 87).run Try.prog w=.ok (.agg #[.int .i64 0,.slice none 0 0]) w:=by kernel_rfl
theorem gB.at_none {w:World} {P:Nat->Prop} {mv:Value} {σ:Int->Option Tm} (h:gB w P mv σ) {x:Int} (hx:σ x=none) {T:TypeId} (hT:Try.prog.underlying T=some (.map 3 87)):
 (Instr.lookup T mv (.int .i64 x) true).run Try.prog w=.ok (.tuple #[.agg #[.int .i64 0,.slice none 0 0],.bool false]) w:=by
 rcases h with⟨rfl,_⟩ | ⟨g,vals,rfl,h2,_⟩
 . have:=aD5 fT hT (iT w) x true;simpa [cE]using this
 have:=h2.lookup_ok fT hT (iT w) x;simpa [cE,hx]using this
theorem gB.at_some {w:World} {P:Nat->Prop} {mv:Value} {σ:Int->Option Tm} (h:gB w P mv σ) {x:Int} {t:Tm} (hx:σ x=some t) {T:TypeId} (hT:Try.prog.underlying T=some (.map 3 87)):
 ∃A c,RdP w P (.sl 2 (aH t.args)) (.slice A t.args.length c)/\∀w',Below w.heap.size w w'->(Instr.lookup T mv (.int .i64 x) true).run Try.prog w'=.ok (.tuple #[.agg #[.int .i64 t.fn,.slice A t.args.length c],.bool true]) w':=by
 rcases h with⟨rfl,h0⟩ | ⟨g,vals,rfl,h2,h3⟩
 . rw[h0 x]at hx;cases hx
 have h4:=h3 x t hx;obtain⟨A,c,hv,-⟩:=h4.rd'.tm_form;rw[hv]at h4;refine⟨A,c,h4,λw' hb=>?_⟩;have:=(h2.low hb).lookup_ok fT hT (iT w') x;rw[hx]at this;simp only[Option.map_some,Option.getD_some,Option.isSome_some,hv]at this;simpa [cE]using this
mutual
def cX (σ:Int->Option Tm):Tm->Tm
 | .mk f xs=>match (if f<0 then σ f else none)with
  | some x=>x
  | none=>.mk f (bY σ xs)
def bY (σ:Int->Option Tm):List Tm->List Tm
 | []=>[]
 | x::xs=>cX σ x::bY σ xs
end
theorem dV (σ:Int->Option Tm):∀xs:List Tm,bY σ xs=xs.map (cX σ)
 | []=>rfl
 | x::xs=>by rw[bY,dV σ xs];rfl
theorem rB (σ:Int->Option Tm)(mv:Value)(d:Nat):∀(P:Nat->Prop) (f:Int) (xs:List Tm) (v:Value) (Bk:Nat) (w:World),aI xs<d->aI xs<=1000000000->Rd w Bk (.sl 2 (aH xs)) v->Bk<=w.heap.size->gB w P mv σ->
 Calls Try.prog 92 #[mv,.agg #[.int .i64 f,v]] w (TmR P (cX σ (.mk f xs)) w):=by
 induction d with
 | zero=>intro P f xs v Bk w h;omega
 | succ d ih=>
 intro P f xs v Bk w hd hz hr hB hU0;have hU:=hU0.more (P':=λb=>P b/\b<w.heap.size) (λb hb hl=>⟨hb,hl⟩);clear hU0;obtain⟨A,c,rfl,hc,hn,hm⟩:=hr.tm_form;have Hr:=Lh hr;have Hih:=Lh ih;have HU:=Lh hU;clear hr ih hU;obtain⟨hx1,hx2,hB2,hz2⟩:=aO w (.cells #[.int .i64 f,.slice A xs.length c] 87) (.cells #[.int .i64 0,.slice none 0 0] 87);by_cases hneg:f<0
 . cases hs:σ f with
   | some t=>
    have hres:cX σ (.mk f xs)=t:=(by rw[cX];simp[hneg,hs]);rw[hres];obtain⟨At,ct,hrd,hlk⟩:=HU.out.at_some hs Try.underlying110;have hlk2:=hlk _ hB2;clear hlk;have Hrd:=Lh hrd;clear hres hs hrd;go_enter Try.func92,Try.ntmps92;go_upto_region 2 with fail
    generalize (w.alloc (.cells #[.int .i64 f,.slice A xs.length c] 87)).alloc (.cells #[.int .i64 0,.slice none 0 0] 87)=w2 at hx1 hx2 hB2 hz2 hlk2 ⊢;have hb1:aL w.heap.size 87 (.int .i64 f) (.slice A xs.length c) w2:=hx1;obtain⟨m0,m1,-⟩:=hb1.cells;have Hb2:=Lh (show aL (w.heap.size+1) 87 (.int .i64 0) (.slice none 0 0) w2 from hx2);have HB2:=Lh hB2;have hz2':w.heap.size+2<=w2.heap.size:=(by omega);clear hx1 hx2 hB2 hb1 hz2;go_upto_region 4 with fail
    have hbx3:=aD w2 (.cells #[.int .i64 t.fn,.slice At t.args.length ct] 87);have hbe3:aL w2.heap.size 87 (.int .i64 t.fn) (.slice At t.args.length ct) (w2.alloc (.cells #[.int .i64 t.fn,.slice At t.args.length ct] 87)):=heap_alloc_new w2 _;generalize w2.alloc (.cells #[.int .i64 t.fn,.slice At t.args.length ct] 87)=w3 at hbx3 hbe3 ⊢;have hb23:=Hb2.out.low hbx3;obtain⟨p0,p1,-⟩:=hbe3.cells;obtain⟨q0,q1,q2⟩:=hb23.cells;have hset:=hb23.set (.int .i64 t.fn) (.slice At t.args.length ct);have hz3:=hbx3.size;have hrd4:=((Hrd.out.low HB2.out).low hbx3).upd hset.2 (λb hb _ e=>by have:=hb.2;omega);have hfin:Below w.heap.size w _:=(HB2.out.trans (hbx3.mono (by omega))).trans (hset.2.toLow (by omega) (by rintro j rfl;omega));have Hset:=Lh hset.1;have Hrd4:=Lh hrd4;have Hfin:=Lh hfin;clear hset hrd4 hfin hbx3 hbe3 hb23 hlk2 Hrd Hb2 HB2;go_wp2_with fail;obtain⟨j0,j1,-⟩:=Hset.out.cells;refine bodyPost_ret (v:=.agg #[.int .i64 t.fn,.slice At t.args.length ct]) (by simp[results,Try.results92,go_sem,j0,j1]) rfl ⟨At,ct,rfl,Hrd4.out.more (λb hb _=>.inl hb.1),Hfin.out⟩
   | none=>
    have hres:cX σ (.mk f xs)=.mk f (bY σ xs):=(by rw[cX];simp[hneg,hs]);rw[hres];have hlk:=(HU.out.low hB2).at_none hs Try.underlying110;clear hres hs;go_enter Try.func92,Try.ntmps92;go_upto_region 2 with fail
    generalize (w.alloc (.cells #[.int .i64 f,.slice A xs.length c] 87)).alloc (.cells #[.int .i64 0,.slice none 0 0] 87)=w2 at hx1 hx2 hB2 hz2 hlk ⊢;have hb1:aL w.heap.size 87 (.int .i64 f) (.slice A xs.length c) w2:=hx1;have hb2:aL (w.heap.size+1) 87 (.int .i64 0) (.slice none 0 0) w2:=hx2;obtain⟨m0,m1,m2⟩:=hb1.cells;have HB2:=Lh hB2;have Hbb1:=Lh hb1;have Hbb2:=Lh hb2;clear hx1 hx2 hB2 hb1 hb2;go_upto_region 5 with fail
    have hbx3:=aD w2 (.cells #[.int .i64 0,.slice none 0 0] 87);have hz3:(w2.alloc (.cells #[.int .i64 0,.slice none 0 0] 87)).heap.size=w2.heap.size+1:=(by simp);clear m0 m1 m2 hlk;generalize w2.alloc (.cells #[.int .i64 0,.slice none 0 0] 87)=wa at hbx3 hz3 ⊢;have hb1:=Hbb1.out.low hbx3;have hb2:=Hbb2.out.low hbx3;obtain⟨m0,m1,m2⟩:=hb1.cells;obtain⟨n0,n1,-⟩:=hb2.cells;have hza:w.heap.size+2<=wa.heap.size:=(by omega);have Hb1:=Lh hb1;have Hb2:=Lh hb2;have HBa:=Lh (HB2.out.trans (hbx3.mono (by omega)));clear hb1 hb2 hbx3 hz2 HB2 Hbb1 Hbb2 hz3;-- the world wa,in which the boxes w.heap.size (the tree) and w.heap.size+1 (the result) stand
    go_upto_region 7 with fail
    have hb1:aL w.heap.size 87 (.int .i64 f) (.slice none 0 0) (wa.setCell ⟨w.heap.size,1,none⟩ (.slice none 0 0)):=Hb1.out.put1 _;have hu0:Upd wa (wa.setCell ⟨w.heap.size,1,none⟩ (.slice none 0 0)) (λb=>b=w.heap.size):=aM _;have hb2:=Hb2.out.upd hu0 (by omega);have hB0:Below w.heap.size w (wa.setCell ⟨w.heap.size,1,none⟩ (.slice none 0 0)):=HBa.out.trans (hu0.toLow (by omega) (by rintro j rfl;omega));have hz0:wa.heap.size<=(wa.setCell ⟨w.heap.size,1,none⟩ (.slice none 0 0)).heap.size:=hu0.size;generalize wa.setCell ⟨w.heap.size,1,none⟩ (.slice none 0 0)=w0 at hb1 hb2 hB0 hz0 hu0 ⊢;have HB0:=Lh hB0;have Hb1':=Lh hb1;have Hb2':=Lh hb2;clear m0 m1 m2 n0 n1 hb1 hb2 hB0 hu0 Hb1 Hb2 HBa;go_wp2_with fail;go_loopw [27] (λi wr=>∃k:Nat,k<=xs.length/\i=.int .i64 k/\∃u,aL w.heap.size 87 (.int .i64 f) u wr/\bC wr (λb=>P b/\b<w.heap.size) w0.heap.size 51 2 u (aH (bY σ (xs.take k)))/\Upd w0 wr (λj=>j=w.heap.size)) (λi _=>xs.length-(intOf i).toNat)
    case atStart=>exact⟨0,Nat.zero_le _,rfl,_,Hb1'.out,bC.nil _ _ _ _ _,Upd.refl _ _⟩
    obtain⟨k,hk,rfl,u,hbk,hown,hup⟩:=hrel;have hzr:=hup.size;have hur:=hown.lt;have hbw:Below w.heap.size w wr:=HB0.out.trans (hup.toLow (by omega) (by rintro j rfl;omega));have hzw:=hbw.size;by_cases hlt:k<xs.length
    . obtain⟨ab,off,f',ys,A',c',rfl,hxk,hab,k0,k1,hrd⟩:=(Hr.out.low hbw hB).tm_at hlt;have hmem:=aZ hlt;rw[hxk]at hmem;simp only[aK]at hmem;have hd1:aI ys<d:=(by omega);have hd2:aI ys<=1000000000:=(by omega);obtain⟨t,ht⟩:∃t,cX σ (.mk f' ys)=t:=⟨_,rfl⟩;have hlk:(aH (bY σ (xs.take k))).length=k:=(by rw[bG,dV,List.length_map,List.length_take];omega);have hlz:=bL xs;have hsn:aH (bY σ (xs.take (k+1)))=aH (bY σ (xs.take k))++[bB t]:=by
       rw[List.take_succ_eq_append_getElem hlt,dV,dV,List.map_append,bS,bS,List.map_append];simp[hxk,ht]
      have Hbk:=Lh hbk;have Hown:=Lh hown;have Hup:=Lh hup;have HRD:=Lh hrd;have HBW:=Lh hbw;have Ht:=Lh ht;have Hlk:=Lh hlk;have Hsn:=Lh hsn;clear hbk hown hup hxk hrd hbw ht hlk hsn hmem;go_upto_region 10 with fail
      have hbx5:=aD wr (.cells #[.int .i64 f',.slice A' ys.length c'] 51);have hbe5:aL wr.heap.size 51 (.int .i64 f') (.slice A' ys.length c') (wr.alloc (.cells #[.int .i64 f',.slice A' ys.length c'] 51)):=heap_alloc_new wr _;generalize wr.alloc (.cells #[.int .i64 f',.slice A' ys.length c'] 51)=w5 at hbx5 hbe5 ⊢;have hz5:=hbx5.size;have hbl5:=hbe5.lt;have Hbx5:=Lh hbx5;have Hbe5:=Lh hbe5;clear hbx5 hbe5 k0 k1;refine rg 9 (λL w'=>Upd w5 w' (λb=>b=w.heap.size\/u.ownBlock=some b)/\(L.getD 8 false=false->aL w.heap.size 87 (.int .i64 f) u w')) ?_;intro wd hwd hbd;refine⟨?_,λhS=>?_⟩
      . exact⟨Upd.low (hwd ▸ hbd) _,λ_=>(Hbk.out.low Hbx5.out).low (hwd ▸ hbd)⟩
      refine tk 0 (.pointer (some ⟨w.heap.size,1,none⟩)) hS ?_ (λhS=>?_) (hins:=λL w=>by simp only[aB (l:=L) (i:=0) (k:=8) (by decide)])
      . intro w' L hn hw;have n8:=hn.flag 8 (by kernel_rfl);simp[execOp,go_sem]
      refine tk 1 (u) hS ?_ (λhS=>?_) (hins:=λL w=>by simp only[aB (l:=L) (i:=1) (k:=8) (by decide)])
      . intro w' L hn hw;have hh:=(hw.2 (hn.flag 8 (by kernel_rfl))).cells;simp[execOp,go_sem,hh.2.1]
      refine ta 2 (mv) hS (λhS=>?_) (hins:=λL w=>by simp only[aB (l:=L) (i:=2) (k:=8) (by decide)]);refine tk 3 (.agg #[.int .i64 f',.slice A' ys.length c']) hS ?_ (λhS=>?_) (hins:=λL w=>by simp only[aB (l:=L) (i:=3) (k:=8) (by decide)])
      . intro w' L hn hw;have n8:=hn.flag 8 (by kernel_rfl);have hh:=(Hbe5.out.upd hw.1 (λe=>by rcases e with e | e;omega;have:=(hur _ e).2;omega)).cells;simp[execOp,go_sem,hh.1,hh.2.1]
      refine so 4 ?_;have hb5d:Below w5.heap.size w5 wd:=hwd ▸ hbd;have hwwd:Below w.heap.size w wd:=(HBW.out.trans (Hbx5.out.mono (by omega))).trans (hb5d.mono (by omega));have hc4:=Hih.out (λb=>P b/\b<w.heap.size) f' ys (.slice A' ys.length c') Bk wd hd1 hd2 ((HRD.out.low (Hbx5.out.mono (by omega)) (Nat.le_refl _)).low (hb5d.mono (by omega)) (Nat.le_refl _)) (by have:=hwwd.size;omega) (HU.out.low hwwd);rw[Ht.out]at hc4;refine aG ?_ hc4 ?_
      . simp[execOp,resolve,invoke,go_sem]
      rintro e w6 ⟨At,nt,rfl,hrt,hb6⟩;refine⟨_,rfl,?_⟩;refine gS ?_ λhS=>?_
      . exact⟨hS.1.trans (Upd.low hb6 (λ_=>False)) (λ_ h=>h.elim),λ_=>(hS.2 rfl).low hb6⟩
      refine so 5 ?_;refine aE (v:=.slice (some ⟨w6.heap.size,0,none⟩) 1 1) (w':=w6.alloc (.cells #[.int .i64 t.fn,.slice At t.args.length nt] 51)) (by simp[execOp,go_sem]) ?_;have hg8:=heap_alloc_new w6 (.cells #[.int .i64 t.fn,.slice At t.args.length nt] 51);have hb8:=aD w6 (.cells #[.int .i64 t.fn,.slice At t.args.length nt] 51);generalize w6.alloc (.cells #[.int .i64 t.fn,.slice At t.args.length nt] 51)=w8 at hg8 hb8 ⊢;refine gS ?_ λhS=>?_
      . exact⟨hS.1.trans (Upd.low hb8 (λ_=>False)) (λ_ h=>h.elim),λ_=>(hS.2 rfl).low hb8⟩
      refine sl 6 ?_;have hz6:=hb6.size;have hz8:=hb8.size;have hzd:wd.heap.size=w5.heap.size:=(by rw[hwd]);have hown8:=(((Hown.out.low Hbx5.out).low (hwd ▸ hbd:Below w5.heap.size w5 wd)).low hb6).low hb8;refine cK w8 rfl (.tmp 32) (.tmp 36) _ rfl oX (M:=λb=>P b/\b<w.heap.size) (base:=w0.heap.size) (v:=u) (trs:=aH (bY σ (xs.take k))) (by simp[go_sem]) hown8 (g:=w6.heap.size) (by simp[go_sem]) hg8 rfl (by intro y hy;simp at hy;rcases hy with rfl | rfl <;> rfl) (by rw[Hlk.out];omega) (by rw[Hlk.out];unfold maxLen;omega) (by omega) (bB t) (by rcases t with⟨tf,ta⟩;rfl) ?_ ?_
      . intro j h h';have hj2:j<2:=h';rcases t with⟨tf,ta⟩
        rcases(by omega:j=0\/j=1)with rfl | rfl
        . exact .leaf _
        exact(hrt.low hb8).more λb hb _=>by
         rcases hb with hb | hb
         . exact⟨.inl hb,λe=>by have:=(hur _ e).1;have:=hb.2;omega⟩
         exact⟨.inr (by omega),λe=>by have:=(hur _ e).2;omega⟩
      intro v' w9 hown' hup' hat';obtain⟨Av,cv,hv',-,-⟩:=hown'.form;have hbu9:aL w.heap.size 87 (.int .i64 f) u w9:=((hS.2 rfl)).upd hup' (λe=>by have:=(hur _ e).1;omega);refine gL ?_ λhS=>?_
      . exact⟨hS.1.trans hup' (λ_ h=>.inl (.inr h)),λ_=>hbu9⟩
      refine tk 7 (.pointer (some ⟨w.heap.size,1,none⟩)) hS ?_ (λhS=>?_) (hins:=λL w=>by simp only[aB (l:=L) (i:=7) (k:=8) (by decide)])
      . intro w' L hn hw;have n8:=hn.flag 8 (by kernel_rfl);simp[execOp,go_sem]
      refine so 8 ?_;obtain⟨q0,q1,q2⟩:=hbu9.cells;have hpt:=hbu9.put1 v';rw[hv']at hpt ⊢;refine bF (w':=w9.setCell ⟨w.heap.size,1,none⟩ (.slice Av (aH (bY σ (xs.take k))++[bB t]).length cv)) (by simp[execOp,go_sem,q1,q2]) ?_;have hu10:Upd w9 (w9.setCell ⟨w.heap.size,1,none⟩ (.slice Av (aH (bY σ (xs.take k))++[bB t]).length cv)) (λb=>b=w.heap.size):=aM _;rw[<-hv']at hpt hu10 ⊢;generalize w9.setCell ⟨w.heap.size,1,none⟩ v'=w10 at hpt hu10 ⊢;refine gS ?_ λhS=>?_
      . exact⟨hS.1.trans hu10 (λ_ h=>.inl (.inl h)),λh=>by cases h⟩
      refine dn ?_;have hown10:=hown'.upd hu10 (λb hb _ e=>by
       rcases hb with hb | hb
       . have:=hb.2;omega
       omega)
      have hu2:Upd w0 w10 (λb=>b=w.heap.size):=(Hup.out.trans (Upd.low Hbx5.out (λ_=>False)) (λ_ h=>h.elim)).trans hS.1 (λi e=>by
       rcases e with e | e
       . exact .inl e
       exact .inr (hur i e).1)
      rw[<-Hsn.out]at hown10;have Hown10:=Lh hown10;have Hu2:=Lh hu2;have Hpt:=Lh hpt;clear hown10 hu2 hrt hpt hu10 hown' hup' hat' hv' hbu9 hg8 hb8 hS q0 q1 q2 hwd hbd hb6;go_wp2_with fail;go_roundw
      case rel=>exact⟨k+1,by omega,by go_num,v',Hpt.out,Hown10.out,Hu2.out⟩
      case measure=>simp[intOf];omega
    obtain rfl:k=xs.length:=by omega
    rw[List.take_length]at hown;obtain⟨Au,cu,hu,-,-⟩:=hown.form;have hlz2:=bL xs;have hlm2:(bY σ xs).length<=1000000000:=(by rw[dV,List.length_map];omega);rw[bG]at hu;subst hu;obtain⟨c0,c1,-⟩:=hbk.cells;have hb2r:=Hb2'.out.upd hup (by omega);obtain⟨d0,d1,d2⟩:=hb2r.cells;have hset:=hb2r.set (.int .i64 f) (.slice Au (bY σ xs).length cu);have hread:=(hown.rd (by rw[bG];omega)).upd hset.2 (λb hb _ e=>by
     rcases hb with hb | hb
     . have:=hb.2;omega
     omega)
    have hfin:Below w.heap.size w _:=hbw.trans (hset.2.toLow (by omega) (by rintro j rfl;omega));have Hset:=Lh hset.1;have Hread:=Lh hread;have Hfin:=Lh hfin;clear hset hread hfin hown hbk hb2r hup hbw;go_wp2_with fail;obtain⟨j0,j1,-⟩:=Hset.out.cells;refine bodyPost_ret (v:=.agg #[.int .i64 f,.slice Au (bY σ xs).length cu]) (by simp[results,Try.results92,go_sem,j0,j1]) rfl ⟨Au,cu,rfl,Hread.out.more (λb hb _=>by rcases hb with hb | hb;exact .inl hb.1;exact .inr (by omega)),Hfin.out⟩
 have hres:cX σ (.mk f xs)=.mk f (bY σ xs):=by rw[cX];simp[hneg]
 rw[hres];clear hres;go_enter Try.func92,Try.ntmps92;go_upto_region 5 with fail
 generalize (w.alloc (.cells #[.int .i64 f,.slice A xs.length c] 87)).alloc (.cells #[.int .i64 0,.slice none 0 0] 87)=wa at hx1 hx2 hB2 hz2 ⊢;have hb1:aL w.heap.size 87 (.int .i64 f) (.slice A xs.length c) wa:=hx1;have hb2:aL (w.heap.size+1) 87 (.int .i64 0) (.slice none 0 0) wa:=hx2;obtain⟨m0,m1,m2⟩:=hb1.cells;obtain⟨n0,n1,-⟩:=hb2.cells;have hza:w.heap.size+2<=wa.heap.size:=by omega
 have Hb1:=Lh hb1;have Hb2:=Lh hb2;have HBa:=Lh hB2;clear hx1 hx2 hb1 hb2 hB2 hz2;-- the world wa,in which the boxes w.heap.size (the tree) and w.heap.size+1 (the result) stand
 go_upto_region 7 with fail
 have hb1:aL w.heap.size 87 (.int .i64 f) (.slice none 0 0) (wa.setCell ⟨w.heap.size,1,none⟩ (.slice none 0 0)):=Hb1.out.put1 _;have hu0:Upd wa (wa.setCell ⟨w.heap.size,1,none⟩ (.slice none 0 0)) (λb=>b=w.heap.size):=aM _;have hb2:=Hb2.out.upd hu0 (by omega);have hB0:Below w.heap.size w (wa.setCell ⟨w.heap.size,1,none⟩ (.slice none 0 0)):=HBa.out.trans (hu0.toLow (by omega) (by rintro j rfl;omega));have hz0:wa.heap.size<=(wa.setCell ⟨w.heap.size,1,none⟩ (.slice none 0 0)).heap.size:=hu0.size;generalize wa.setCell ⟨w.heap.size,1,none⟩ (.slice none 0 0)=w0 at hb1 hb2 hB0 hz0 hu0 ⊢;have HB0:=Lh hB0;have Hb1':=Lh hb1;have Hb2':=Lh hb2;clear m0 m1 m2 n0 n1 hb1 hb2 hB0 hu0 Hb1 Hb2 HBa;go_wp2_with fail;go_loopw [27] (λi wr=>∃k:Nat,k<=xs.length/\i=.int .i64 k/\∃u,aL w.heap.size 87 (.int .i64 f) u wr/\bC wr (λb=>P b/\b<w.heap.size) w0.heap.size 51 2 u (aH (bY σ (xs.take k)))/\Upd w0 wr (λj=>j=w.heap.size)) (λi _=>xs.length-(intOf i).toNat)
 case atStart=>exact⟨0,Nat.zero_le _,rfl,_,Hb1'.out,bC.nil _ _ _ _ _,Upd.refl _ _⟩
 obtain⟨k,hk,rfl,u,hbk,hown,hup⟩:=hrel;have hzr:=hup.size;have hur:=hown.lt;have hbw:Below w.heap.size w wr:=HB0.out.trans (hup.toLow (by omega) (by rintro j rfl;omega));have hzw:=hbw.size;by_cases hlt:k<xs.length
 . obtain⟨ab,off,f',ys,A',c',rfl,hxk,hab,k0,k1,hrd⟩:=(Hr.out.low hbw hB).tm_at hlt;have hmem:=aZ hlt;rw[hxk]at hmem;simp only[aK]at hmem;have hd1:aI ys<d:=by omega
   have hd2:aI ys<=1000000000:=by omega
   obtain⟨t,ht⟩:∃t,cX σ (.mk f' ys)=t:=⟨_,rfl⟩;have hlk:(aH (bY σ (xs.take k))).length=k:=by rw[bG,dV,List.length_map,List.length_take];omega
   have hlz:=bL xs;have hsn:aH (bY σ (xs.take (k+1)))=aH (bY σ (xs.take k))++[bB t]:=by
    rw[List.take_succ_eq_append_getElem hlt,dV,dV,List.map_append,bS,bS,List.map_append];simp[hxk,ht]
   have Hbk:=Lh hbk;have Hown:=Lh hown;have Hup:=Lh hup;have HRD:=Lh hrd;have HBW:=Lh hbw;have Ht:=Lh ht;have Hlk:=Lh hlk;have Hsn:=Lh hsn;clear hbk hown hup hxk hrd hbw ht hlk hsn hmem;go_upto_region 10 with fail
   have hbx5:=aD wr (.cells #[.int .i64 f',.slice A' ys.length c'] 51);have hbe5:aL wr.heap.size 51 (.int .i64 f') (.slice A' ys.length c') (wr.alloc (.cells #[.int .i64 f',.slice A' ys.length c'] 51)):=heap_alloc_new wr _;generalize wr.alloc (.cells #[.int .i64 f',.slice A' ys.length c'] 51)=w5 at hbx5 hbe5 ⊢;have hz5:=hbx5.size;have hbl5:=hbe5.lt;have Hbx5:=Lh hbx5;have Hbe5:=Lh hbe5;clear hbx5 hbe5 k0 k1;refine rg 9 (λL w'=>Upd w5 w' (λb=>b=w.heap.size\/u.ownBlock=some b)/\(L.getD 8 false=false->aL w.heap.size 87 (.int .i64 f) u w')) ?_;intro wd hwd hbd;refine⟨?_,λhS=>?_⟩
   . exact⟨Upd.low (hwd ▸ hbd) _,λ_=>(Hbk.out.low Hbx5.out).low (hwd ▸ hbd)⟩
   refine tk 0 (.pointer (some ⟨w.heap.size,1,none⟩)) hS ?_ (λhS=>?_) (hins:=λL w=>by simp only[aB (l:=L) (i:=0) (k:=8) (by decide)])
   . intro w' L hn hw;have n8:=hn.flag 8 (by kernel_rfl);simp[execOp,go_sem]
   refine tk 1 (u) hS ?_ (λhS=>?_) (hins:=λL w=>by simp only[aB (l:=L) (i:=1) (k:=8) (by decide)])
   . intro w' L hn hw;have hh:=(hw.2 (hn.flag 8 (by kernel_rfl))).cells;simp[execOp,go_sem,hh.2.1]
   refine ta 2 (mv) hS (λhS=>?_) (hins:=λL w=>by simp only[aB (l:=L) (i:=2) (k:=8) (by decide)]);refine tk 3 (.agg #[.int .i64 f',.slice A' ys.length c']) hS ?_ (λhS=>?_) (hins:=λL w=>by simp only[aB (l:=L) (i:=3) (k:=8) (by decide)])
   . intro w' L hn hw;have n8:=hn.flag 8 (by kernel_rfl);have hh:=(Hbe5.out.upd hw.1 (λe=>by rcases e with e | e;omega;have:=(hur _ e).2;omega)).cells;simp[execOp,go_sem,hh.1,hh.2.1]
   refine so 4 ?_;have hb5d:Below w5.heap.size w5 wd:=hwd ▸ hbd;have hwwd:Below w.heap.size w wd:=(HBW.out.trans (Hbx5.out.mono (by omega))).trans (hb5d.mono (by omega));have hc4:=Hih.out (λb=>P b/\b<w.heap.size) f' ys (.slice A' ys.length c') Bk wd hd1 hd2 ((HRD.out.low (Hbx5.out.mono (by omega)) (Nat.le_refl _)).low (hb5d.mono (by omega)) (Nat.le_refl _)) (by have:=hwwd.size;omega) (HU.out.low hwwd);rw[Ht.out]at hc4;refine aG ?_ hc4 ?_
   . simp[execOp,resolve,invoke,go_sem]
   rintro e w6 ⟨At,nt,rfl,hrt,hb6⟩;refine⟨_,rfl,?_⟩;refine gS ?_ λhS=>?_
   . exact⟨hS.1.trans (Upd.low hb6 (λ_=>False)) (λ_ h=>h.elim),λ_=>(hS.2 rfl).low hb6⟩
   refine so 5 ?_;refine aE (v:=.slice (some ⟨w6.heap.size,0,none⟩) 1 1) (w':=w6.alloc (.cells #[.int .i64 t.fn,.slice At t.args.length nt] 51)) (by simp[execOp,go_sem]) ?_;have hg8:=heap_alloc_new w6 (.cells #[.int .i64 t.fn,.slice At t.args.length nt] 51);have hb8:=aD w6 (.cells #[.int .i64 t.fn,.slice At t.args.length nt] 51);generalize w6.alloc (.cells #[.int .i64 t.fn,.slice At t.args.length nt] 51)=w8 at hg8 hb8 ⊢;refine gS ?_ λhS=>?_
   . exact⟨hS.1.trans (Upd.low hb8 (λ_=>False)) (λ_ h=>h.elim),λ_=>(hS.2 rfl).low hb8⟩
   refine sl 6 ?_;have hz6:=hb6.size;have hz8:=hb8.size;have hzd:wd.heap.size=w5.heap.size:=by rw[hwd]
   have hown8:=(((Hown.out.low Hbx5.out).low (hwd ▸ hbd:Below w5.heap.size w5 wd)).low hb6).low hb8;refine cK w8 rfl (.tmp 32) (.tmp 36) _ rfl oX (M:=λb=>P b/\b<w.heap.size) (base:=w0.heap.size) (v:=u) (trs:=aH (bY σ (xs.take k))) (by simp[go_sem]) hown8 (g:=w6.heap.size) (by simp[go_sem]) hg8 rfl (by intro y hy;simp at hy;rcases hy with rfl | rfl <;> rfl) (by rw[Hlk.out];omega) (by rw[Hlk.out];unfold maxLen;omega) (by omega) (bB t) (by rcases t with⟨tf,ta⟩;rfl) ?_ ?_
   . intro j h h';have hj2:j<2:=h';rcases t with⟨tf,ta⟩
     rcases(by omega:j=0\/j=1)with rfl | rfl
     . exact .leaf _
     exact(hrt.low hb8).more λb hb _=>by
      rcases hb with hb | hb
      . exact⟨.inl hb,λe=>by have:=(hur _ e).1;have:=hb.2;omega⟩
      exact⟨.inr (by omega),λe=>by have:=(hur _ e).2;omega⟩
   intro v' w9 hown' hup' hat';obtain⟨Av,cv,hv',-,-⟩:=hown'.form;have hbu9:aL w.heap.size 87 (.int .i64 f) u w9:=((hS.2 rfl)).upd hup' (λe=>by have:=(hur _ e).1;omega);refine gL ?_ λhS=>?_
   . exact⟨hS.1.trans hup' (λ_ h=>.inl (.inr h)),λ_=>hbu9⟩
   refine tk 7 (.pointer (some ⟨w.heap.size,1,none⟩)) hS ?_ (λhS=>?_) (hins:=λL w=>by simp only[aB (l:=L) (i:=7) (k:=8) (by decide)])
   . intro w' L hn hw;have n8:=hn.flag 8 (by kernel_rfl);simp[execOp,go_sem]
   refine so 8 ?_;obtain⟨q0,q1,q2⟩:=hbu9.cells;have hpt:=hbu9.put1 v';rw[hv']at hpt ⊢;refine bF (w':=w9.setCell ⟨w.heap.size,1,none⟩ (.slice Av (aH (bY σ (xs.take k))++[bB t]).length cv)) (by simp[execOp,go_sem,q1,q2]) ?_;have hu10:Upd w9 (w9.setCell ⟨w.heap.size,1,none⟩ (.slice Av (aH (bY σ (xs.take k))++[bB t]).length cv)) (λb=>b=w.heap.size):=aM _;rw[<-hv']at hpt hu10 ⊢;generalize w9.setCell ⟨w.heap.size,1,none⟩ v'=w10 at hpt hu10 ⊢;refine gS ?_ λhS=>?_
   . exact⟨hS.1.trans hu10 (λ_ h=>.inl (.inl h)),λh=>by cases h⟩
   refine dn ?_;have hown10:=hown'.upd hu10 (λb hb _ e=>by
    rcases hb with hb | hb
    . have:=hb.2;omega
    omega)
   have hu2:Upd w0 w10 (λb=>b=w.heap.size):=(Hup.out.trans (Upd.low Hbx5.out (λ_=>False)) (λ_ h=>h.elim)).trans hS.1 (λi e=>by
    rcases e with e | e
    . exact .inl e
    exact .inr (hur i e).1)
   rw[<-Hsn.out]at hown10;have Hown10:=Lh hown10;have Hu2:=Lh hu2;have Hpt:=Lh hpt;clear hown10 hu2 hrt hpt hu10 hown' hup' hat' hv' hbu9 hg8 hb8 hS q0 q1 q2 hwd hbd hb6;go_wp2_with fail;go_roundw
   case rel=>exact⟨k+1,by omega,by go_num,v',Hpt.out,Hown10.out,Hu2.out⟩
   case measure=>simp[intOf];omega
 obtain rfl:k=xs.length:=by omega
 rw[List.take_length]at hown;obtain⟨Au,cu,hu,-,-⟩:=hown.form;have hlz2:=bL xs;have hlm2:(bY σ xs).length<=1000000000:=by rw[dV,List.length_map];omega
 rw[bG]at hu;subst hu;obtain⟨c0,c1,-⟩:=hbk.cells;have hb2r:=Hb2'.out.upd hup (by omega);obtain⟨d0,d1,d2⟩:=hb2r.cells;have hset:=hb2r.set (.int .i64 f) (.slice Au (bY σ xs).length cu);have hread:=(hown.rd (by rw[bG];omega)).upd hset.2 (λb hb _ e=>by
  rcases hb with hb | hb
  . have:=hb.2;omega
  omega)
 have hfin:Below w.heap.size w _:=hbw.trans (hset.2.toLow (by omega) (by rintro j rfl;omega));have Hset:=Lh hset.1;have Hread:=Lh hread;have Hfin:=Lh hfin;clear hset hread hfin hown hbk hb2r hup hbw;go_wp2_with fail;obtain⟨j0,j1,-⟩:=Hset.out.cells;refine bodyPost_ret (v:=.agg #[.int .i64 f,.slice Au (bY σ xs).length cu]) (by simp[results,Try.results92,go_sem,j0,j1]) rfl ⟨Au,cu,rfl,Hread.out.more (λb hb _=>by rcases hb with hb | hb;exact .inl hb.1;exact .inr (by omega)),Hfin.out⟩
def aE4 (σ:Int->Option Tm)(x:Lt):Lt:=⟨x.neg,cX σ x.l,cX σ x.r⟩
def gU (σ:Int->Option Tm)(c:Cl):Cl:=c.map (aE4 σ)
theorem gN (σ:Int->Option Tm)(mv:Value)(P:Nat->Prop)(c:Cl)(v:Value)(B:Nat)(w:World)(hr:Rd w B (aT c) v)(hB:B<=w.heap.size)(hz:aR c<=1000000000)(hU0:gB w P mv σ):
 Calls Try.prog 69 #[mv,v] w (yE P 53 5 ((gU σ c).map aQ) w):=by
 have hU:=hU0.more (P':=λb=>P b/\b<w.heap.size) (λb hb hl=>⟨hb,hl⟩);clear hU0;obtain⟨A,cp,rfl,hc,hn,hm⟩:=Rd.cl_form hr;have Hr:=Lh hr;have HU:=Lh hU;clear hr hU;go_enter Try.func69,Try.ntmps69;go_wp2_with fail;go_loopw [4,9] (λu i wr=>∃k:Nat,k<=c.length/\i=.int .i64 k/\bC wr (λb=>P b/\b<w.heap.size) w.heap.size 53 5 u ((gU σ (c.take k)).map aQ)/\Below w.heap.size w wr) (λ_ i _=>c.length-(intOf i).toNat)
 case atStart=>exact⟨0,Nat.zero_le _,rfl,bC.nil _ _ _ _ _,Below.refl _ _⟩
 obtain⟨k,hk,rfl,hown,hup⟩:=hrel;have hzr:=hup.size;have hur:=hown.lt;have Hown:=Lh hown;have Hup:=Lh hup;clear hown hup;by_cases hlt:k<c.length
 . have hbw:Below w.heap.size w wr:=Hup.out;obtain⟨ab,off,n0,f1,ys1,A1,c1,f2,ys2,A2,c2,rfl,hxk,hab,k0,k1,k2,k3,k4,hr1,hr2⟩:=(Hr.out.low hbw hB).lt_at hlt;have HXK:=Lh hxk;have HR1:=Lh hr1;have HR2:=Lh hr2;have HBW:=Lh hbw;clear hxk hr1 hr2 hbw;go_upto_region 4 with fail
   have hbx5:=aD wr (.cells #[.bool n0,.int .i64 f1,.slice A1 ys1.length c1,.int .i64 f2,.slice A2 ys2.length c2] 53);have hbe5:eT wr.heap.size 53 (.bool n0) (.int .i64 f1) (.slice A1 ys1.length c1) (.int .i64 f2) (.slice A2 ys2.length c2) (wr.alloc (.cells #[.bool n0,.int .i64 f1,.slice A1 ys1.length c1,.int .i64 f2,.slice A2 ys2.length c2] 53)):=heap_alloc_new wr _;generalize wr.alloc (.cells #[.bool n0,.int .i64 f1,.slice A1 ys1.length c1,.int .i64 f2,.slice A2 ys2.length c2] 53)=w5 at hbx5 hbe5 ⊢;have hz5:=hbx5.size;have hbe5s:=hbe5.lt;have hown5:=Hown.out.low hbx5;have hbw5:Below w.heap.size w w5:=HBW.out.trans (hbx5.mono (by omega));have hmem:=iO hlt;have hlz:=gE c;rw[HXK.out]at hmem;have hms:aI ys1+aI ys2<=1000000000:=by simp[dN,aK]at hmem;omega
   have hcl:∀w',Upd w5 w' (λj=>u4.ownBlock=some j)->
    eT wr.heap.size 53 (.bool n0) (.int .i64 f1) (.slice A1 ys1.length c1) (.int .i64 f2) (.slice A2 ys2.length c2) w'/\w5.heap.size<=w'.heap.size/\
    Rd w' B (.sl 2 (aH ys1)) (.slice A1 ys1.length c1)/\Rd w' B (.sl 2 (aH ys2)) (.slice A2 ys2.length c2):=by
    intro w' h;exact⟨hbe5.upd h (λe=>by have:=(hur _ e).2;omega),h.size,h.keepRd (HR1.out.low hbx5 (by have:=HBW.out.size;omega)) (by omega) (λj e=>by have:=(hur _ e).1;omega),h.keepRd (HR2.out.low hbx5 (by have:=HBW.out.size;omega)) (by omega) (λj e=>by have:=(hur _ e).1;omega)⟩
   have Hcl:=Lh hcl;obtain⟨t1,ht1⟩:∃t,cX σ (.mk f1 ys1)=t:=⟨_,rfl⟩;obtain⟨t2,ht2⟩:∃t,cX σ (.mk f2 ys2)=t:=⟨_,rfl⟩;have Ht1:=Lh ht1;have Ht2:=Lh ht2;have Hown5:=Lh hown5;have HBW5:=Lh hbw5;have hlk:((gU σ (c.take k)).map aQ).length=k:=by unfold gU;simp;omega
   have Hlk:=Lh hlk;clear hcl ht1 ht2 hown5 hbw5 hbx5 hbe5 hmem k0 k1 k2 k3 k4 Hown hlk;refine rg 15 (λ_ w'=>Upd w5 w' (λj=>u4.ownBlock=some j)) ?_;intro wd hwd hbd;refine⟨?_,λhS=>?_⟩
   . exact Upd.low (hwd ▸ hbd) _
   refine ta 0 (u4) hS λhS=>?_
   refine ta 1 (.pointer (some ⟨wr.heap.size,0,none⟩)) hS λhS=>?_
   refine tk 2 (.bool n0) hS ?_ λhS=>?_
   . intro w' L hn hw;have o1:=(Hcl.out _ hw).1;obtain⟨p0,p1,p2,p3,p4⟩:=o1.cells;simp[execOp,go_sem,p0]
   refine ta 3 (mv) hS λhS=>?_
   refine ta 4 (.pointer (some ⟨wr.heap.size,1,none⟩)) hS λhS=>?_
   refine tk 5 (.agg #[.int .i64 f1,.slice A1 ys1.length c1]) hS ?_ λhS=>?_
   . intro w' L hn hw;have o1:=(Hcl.out _ hw).1;obtain⟨p0,p1,p2,p3,p4⟩:=o1.cells;simp[execOp,go_sem,p1,p2]
   refine ta 7 (mv) hS λhS=>?_
   refine ta 8 (.pointer (some ⟨wr.heap.size,3,none⟩)) hS λhS=>?_
   refine tk 9 (.agg #[.int .i64 f2,.slice A2 ys2.length c2]) hS ?_ λhS=>?_
   . intro w' L hn hw;have o1:=(Hcl.out _ hw).1;obtain⟨p0,p1,p2,p3,p4⟩:=o1.cells;simp[execOp,go_sem,p3,p4]
   refine so 6 ?_;have hh:=Hcl.out _ hS;have o2:=hh.2.1;have o3:=hh.2.2.1;have o4:=hh.2.2.2;clear hh;have hc6:=rB σ mv (aI ys1+1) (λb=>P b/\b<w.heap.size) f1 ys1 (.slice A1 ys1.length c1) B wd (by omega) (by omega) o3 (by omega) (HU.out.low (HBW5.out.trans ((hwd ▸ hbd:Below w5.heap.size w5 wd).mono (by have:=HBW5.out.size;omega))));rw[Ht1.out]at hc6;refine aG ?_ hc6 ?_
   . simp[execOp,resolve,invoke,go_sem]
   rintro e w6 ⟨B1,n1,rfl,hrd1,hb6⟩;refine⟨_,rfl,?_⟩;refine gS ?_ λhS=>?_
   . exact hS.trans (Upd.low hb6 (λ_=>False)) (λ_ h=>h.elim)
   refine so 10 ?_;have hh:=Hcl.out _ hS;have o2:=hh.2.1;have o3:=hh.2.2.1;have o4:=hh.2.2.2;clear hh;have hc7:=rB σ mv (aI ys2+1) (λb=>P b/\b<w.heap.size) f2 ys2 (.slice A2 ys2.length c2) B w6 (by omega) (by omega) o4 (by omega) (HU.out.low ((HBW5.out.trans ((hwd ▸ hbd:Below w5.heap.size w5 wd).mono (by have:=HBW5.out.size;omega))).trans (hb6.mono (by have:=HBW5.out.size;have:=hbd.size;have:wd.heap.size=w5.heap.size:=(by rw[hwd]);omega))));rw[Ht2.out]at hc7;refine aG ?_ hc7 ?_
   . simp[execOp,resolve,invoke,go_sem]
   rintro e w7 ⟨B2,n2,rfl,hrd2,hb7⟩;refine⟨_,rfl,?_⟩;refine gS ?_ λhS=>?_
   . exact hS.trans (Upd.low hb7 (λ_=>False)) (λ_ h=>h.elim)
   refine ta 11 (.agg #[.bool n0,.int .i64 t1.fn,.slice B1 t1.args.length n1,.int .i64 t2.fn,.slice B2 t2.args.length n2]) hS λhS=>?_
   refine so 12 ?_;refine aE (v:=.slice (some ⟨w7.heap.size,0,none⟩) 1 1) (w':=w7.alloc (.cells #[.bool n0,.int .i64 t1.fn,.slice B1 t1.args.length n1,.int .i64 t2.fn,.slice B2 t2.args.length n2] 53)) (by simp[execOp,go_sem]) ?_;have hg8:=heap_alloc_new w7 (.cells #[.bool n0,.int .i64 t1.fn,.slice B1 t1.args.length n1,.int .i64 t2.fn,.slice B2 t2.args.length n2] 53);have hb8:=aD w7 (.cells #[.bool n0,.int .i64 t1.fn,.slice B1 t1.args.length n1,.int .i64 t2.fn,.slice B2 t2.args.length n2] 53);generalize w7.alloc (.cells #[.bool n0,.int .i64 t1.fn,.slice B1 t1.args.length n1,.int .i64 t2.fn,.slice B2 t2.args.length n2] 53)=w8 at hg8 hb8 ⊢;refine gS ?_ λhS=>?_
   . exact hS.trans (Upd.low hb8 (λ_=>False)) (λ_ h=>h.elim)
   refine sl 13 ?_;have hz6:=hb6.size;have hz7:=hb7.size;have hz8:=hb8.size;have hzd:wd.heap.size=w5.heap.size:=by rw[hwd]
   have hown8:=(((Hown5.out.low (hwd ▸ hbd:Below w5.heap.size w5 wd)).low hb6).low hb7).low hb8;refine cK w8 rfl (.tmp 13) (.tmp 25) _ rfl nW (M:=λb=>P b/\b<w.heap.size) (base:=w.heap.size) (v:=u4) (trs:=(gU σ (c.take k)).map aQ) (by simp[go_sem]) hown8 (g:=w7.heap.size) (by simp[go_sem]) hg8 rfl (by intro y hy;simp at hy;rcases hy with rfl | rfl | rfl | rfl | rfl <;> rfl) (by rw[Hlk.out];omega) (by rw[Hlk.out];unfold maxLen;omega) (by omega) (aQ ⟨n0,t1,t2⟩) (by rcases t1 with⟨_,_⟩;rcases t2 with⟨_,_⟩;rfl) ?_ ?_
   . intro j h h';have hj2:j<5:=h';rcases t1 with⟨tf1,ta1⟩
     rcases t2 with⟨tf2,ta2⟩
     rcases(by omega:j=0\/j=1\/j=2\/j=3\/j=4)with rfl | rfl | rfl | rfl | rfl
     . exact .leaf _
     . exact .leaf _
     . exact(((hrd1.low hb7).low hb8)).more λb hb _=>by
        rcases hb with hb | hb
        . exact⟨.inl hb,λe=>by have:=(hur _ e).1;have:=hb.2;omega⟩
        exact⟨.inr (by omega),λe=>by have:=(hur _ e).2;omega⟩
     . exact .leaf _
     exact(hrd2.low hb8).more λb hb _=>by
      rcases hb with hb | hb
      . exact⟨.inl hb,λe=>by have:=(hur _ e).1;have:=hb.2;omega⟩
      exact⟨.inr (by omega),λe=>by have:=(hur _ e).2;omega⟩
   intro v' w9 hown' hup' hat';refine gL ?_ λhS=>?_
   . exact hS.trans hup' (λ_ h=>.inl h)
   refine ta 14 (v') hS λhS=>?_
   refine dn ?_;have hsn:(gU σ (c.take (k+1))).map aQ=(gU σ (c.take k)).map aQ++[aQ ⟨n0,t1,t2⟩]:=by
    unfold gU;have h1:=HXK.out;have h2:=Ht1.out;have h3:=Ht2.out;rw[List.take_succ_eq_append_getElem hlt,List.map_append,List.map_append,h1];simp only[List.map_cons,List.map_nil,aE4,h2,h3]
   have Hsn:=Lh hsn;have Ho:=Lh hown';have Hu:=Lh hS;clear hsn hown' hS;go_wp2_with fail;go_roundw
   case rel=>
    refine⟨k+1,by omega,by go_num,by rw[Hsn.out];exact Ho.out,?_⟩;exact HBW5.out.trans (Hu.out.toLow (by have:=HBW5.out.size;omega) (λj e=>(hur _ e).1))
   case measure=>simp[intOf];omega
 obtain rfl:k=c.length:=by omega
 have hown:=Hown.out;rw[List.take_length]at hown;have Hown2:=Lh hown;clear hown Hown;go_wp2_with fail;go_ret;exact⟨_,rfl,Hown2.out.moreM (λb hb=>hb.1),Hup.out⟩
open Go.ChangeMaps (setBlock)
section
variable {P:Program} {K:Type} [DecidableEq K] {t k e:TypeId} {w w':World} {g:Nat} {enc:K->Value} {f:K->Option Value}
theorem sT {α:Type} {p q:α->Bool}:∀{l:List α},(∀x∈l,q x=true->p x=true)->∀{a:α},a∈l->p a=true->q a=false->l.countP q<l.countP p
 | x::l,h,a,ha,hp,hq=>by
  have hle:l.countP q<=l.countP p:=List.countP_mono_left λy hy=>h y (List.mem_cons_of_mem _ hy)
  rcases List.mem_cons.1 ha with rfl | ha
  . rw[List.countP_cons_of_pos hp,List.countP_cons_of_neg (by simp[hq])];omega
  have ih:=sT (λy hy=>h y (List.mem_cons_of_mem _ hy)) ha hp hq;have h1:=h x (List.mem_cons_self ..);simp only[List.countP_cons];by_cases hx:q x=true
  . rw[if_pos hx,if_pos (h1 hx)];omega
  rw[if_neg hx];split <;> omega
theorem aD2 {es:Array MapEntry} {seen:Array Nat} {i:Nat} (hi:i<es.size)(hns:seen.contains es[i].born=false):(leftOf es (seen.push es[i].born)).size<(leftOf es seen).size:=by
 unfold leftOf;rw[<-Array.countP_eq_size_filter,<-Array.countP_eq_size_filter,<-Array.countP_toList,<-Array.countP_toList];refine sT (a:=es[i]) (λx _ h=>?_) (by simp) (by simpa using hns) (by simp);simp at h ⊢
 exact h.1
theorem gH {α β:Type} (f:α->β):∀(l:List α) (i:Nat),(l.map f).eraseIdx i=(l.eraseIdx i).map f
 | [],_=>rfl
 | _::_,0=>rfl
 | x::l,i+1=>by simp only[List.map_cons,List.eraseIdx_cons_succ,gH f l i]
theorem pC {x:K} {kv:List (K × Value)} {i j:Nat} {v:Value} (h:bD x kv i=some (j,v)):(x,v)∈kv:=by
 obtain⟨_,_,h3⟩:=fK x kv i j v h;exact List.mem_of_getElem? h3
theorem lA {x:K} {v:Value}:∀{kv:List (K × Value)} {i:Nat},(kv.map (·.1)).Nodup->(x,v)∈kv->((bD x kv i).map (·.2))=some v
 | p::kv,i,hn,hm=>by
  rw[List.map_cons,List.nodup_cons]at hn;unfold bD;rcases List.mem_cons.1 hm with rfl | hm
  . simp
  have:x≠p.1:=λe=>hn.1 (e ▸ List.mem_map.2 ⟨_,hm,rfl⟩)
  rw[if_neg this];exact lA hn.2 hm
theorem tM {α:Type} {l:List α} (h:l.Nodup)(i:Nat):(l.eraseIdx i).Nodup:=h.sublist (List.eraseIdx_sublist _ _)
theorem mM (y x:K)(v:Value):∀(kv:List (K × Value)) (i j:Nat),(kv.map (·.1)).Nodup->bD x kv i=some (j,v)->
 (bD y (kv.eraseIdx (j-i)) i).map (·.2)=if y=x then none else(bD y kv i).map (·.2)
 | [],i,j,_,h=>by simp[bD]at h
 | p::kv,i,j,hn,h=>by
  rw[List.map_cons,List.nodup_cons]at hn;unfold bD at h;split at h
  . rename_i hx
    simp only[Option.some.injEq,Prod.mk.injEq]at h;obtain⟨rfl,rfl⟩:=h;rw[Nat.sub_self,List.eraseIdx_cons_zero];by_cases hy:y=x
    . rw[if_pos hy];cases hf:bD y kv i with
      | none=>rfl
      | some q=>
       obtain⟨j',u⟩:=q;exact absurd (List.mem_map.2 ⟨_,pC hf,by rw[hy,hx]⟩) hn.1
    rw[if_neg hy];conv=>rhs;unfold bD
    rw[if_neg (λe=>hy (e.trans hx.symm)),gC,<-gC y kv (i+1)]
  rename_i hx
  obtain⟨h1,h2,_⟩:=fK x kv (i+1) j v h;have hj:j-i=(j-(i+1))+1:=by omega
  rw[hj,List.eraseIdx_cons_succ];have ih:=mM y x v kv (i+1) j hn.2 h;conv=>lhs;unfold bD
  conv=>rhs;rhs;unfold bD
  by_cases hy:y=p.1
  . rw[if_pos hy,if_pos hy,if_neg (λe=>hx (e.symm.trans hy))]
  rw[if_neg hy,if_neg hy];exact ih
theorem bK.delete (h:bK w g enc f)(hT:KeyTy P k enc)(ht:P.underlying t=some (.map k e))(x:K)(ty:TypeId):
 ∃w',(Builtin.delete_ #[t,k] ty #[.map (some g),enc x]).run P w=.ok (.tuple #[]) w'/\bK w' g enc (λy=>if y=x then none else f y)/\Upd w w' (λk=>k=g):=by
 have hlt:=h.lt;obtain⟨es,c,kv,hg,h1,h2,h3,h4,h5⟩:=h;have hgs:∀(es':Array MapEntry) (c':Nat),({w with heap:=w.heap.setIfInBounds g (.map es' c')}:World).heap[g]? =some (.map es' c'):=by intro es' c';simp[hlt]
 cases hf:bD x kv 0 with
 | none=>
  refine⟨_,?_,⟨es,c,kv,hgs es c,h1,λy=>?_,h3,h4,h5⟩,jL w g _ _⟩
  . simp only[Builtin.delete_,Sem.run_bind,run_underlying ht,Result.andThen_ok,MapKept.run_getObj_map hg,hT.check,hT.find w x kv es.toList h1,hf];simp[run_underlying ht,MapKept.run_getObj_map hg,hT.check,hT.find w x kv es.toList h1,hf,Result.andThen,MapKept.run_setObj_map _ hg]
  by_cases hy:y=x
  . subst hy;simp[hf]
  simp[hy,h2 y]
 | some p=>
  obtain⟨j,u⟩:=p;obtain⟨_,hj,hkv⟩:=fK x kv 0 j u hf;simp only[Nat.zero_add,Nat.sub_zero]at hj hkv;have hlen:es.size=kv.length:=by have:=congrArg List.length h1;simpa using this
  have hje:j<es.size:=by omega
  have htl:(es.eraseIdxIfInBounds j).toList=es.toList.eraseIdx j:=by simp[Array.eraseIdxIfInBounds,hje]
  refine⟨_,?_,⟨es.eraseIdxIfInBounds j,c,kv.eraseIdx j,hgs _ _,?_,λy=>?_,?_,?_,?_⟩,jL w g _ _⟩
  . simp[Builtin.delete_,run_underlying ht,MapKept.run_getObj_map hg,hT.check,hT.find w x kv es.toList h1,hf,Result.andThen,MapKept.run_setObj_map _ hg]
  . rw[htl,<-gH,h1,gH]
  . have:=mM y x u kv 0 j h5 hf;rw[Nat.sub_zero]at this;rw[this,<-h2 y]
  . intro en he;rw[htl]at he;exact h3 en (List.mem_of_mem_eraseIdx he)
  . rw[htl,<-gH];exact tM h4 _
  rw[<-gH];exact tM h5 _
def cU (w:World)(b r:Nat)(enc:K->Value)(f:K->Option Value)(done:K->Prop)(cnt:Nat):Prop:=
 ∃(es:Array MapEntry) (clock:Nat) (kv:List (K × Value)) (seen:Array Nat),w.heap[b]? =some (.map es clock)/\es.toList.map (λe=>(e.key,e.val))=kv.map (λp=>(enc p.1,p.2))/\
  (∀x,f x=(bD x kv 0).map (·.2))/\(∀e∈es.toList,e.born<clock)/\(es.toList.map (·.born)).Nodup/\(kv.map (·.1)).Nodup/\
  w.heap[r]? =some (.mapIter (some b) clock seen clock)/\(leftOf es seen).size=cnt/\(∀i (h:i<es.size) (h':i<kv.length),seen.contains es[i].born=true->done kv[i].1)
theorem cU.map {b r cnt:Nat} {done:K->Prop} (h:cU w b r enc f done cnt):bK w b enc f:=by
 obtain⟨es,c,kv,seen,hg,h1,h2,h3,h4,h5,_⟩:=h;exact⟨es,c,kv,hg,h1,h2,h3,h4,h5⟩
theorem cU.lt {b r cnt:Nat} {done:K->Prop} (h:cU w b r enc f done cnt):r<w.heap.size:=by
 obtain⟨es,c,kv,seen,hg,h1,h2,h3,h4,h5,hr,_⟩:=h;exact(Array.getElem?_eq_some_iff.1 hr).1
theorem cU.upd {b r cnt:Nat} {done:K->Prop} {F:Nat->Prop} (h:cU w b r enc f done cnt)(hu:Upd w w' F)(hb:¬F b)(hr:¬F r):cU w' b r enc f done cnt:=by
 have h1:=h.map.lt;have h2:=h.lt;obtain⟨es,c,kv,seen,hg,k1,k2,k3,k4,k5,k6,k7⟩:=h;exact⟨es,c,kv,seen,(hu.block b h1 hb).trans hg,k1,k2,k3,k4,k5,(hu.block r h2 hr).trans k6,k7⟩
theorem cU.low {b r cnt:Nat} {done:K->Prop} (h:cU w b r enc f done cnt)(hb:Below w.heap.size w w'):cU w' b r enc f done cnt:=h.upd (Upd.low hb (λ_=>False)) id id
theorem bK.range (h:bK w g enc f)(ht:P.underlying t=some (.map k e)):
 ∃w' cnt,(Instr.range t (.map (some g))).run P w=.ok (.pointer (some ⟨w.heap.size,0,none⟩)) w'/\cU w' g w.heap.size enc f (λ_=>False) cnt/\Below w.heap.size w w'/\w'.heap.size=w.heap.size+1:=by
 have hlt:=h.lt;obtain⟨es,c,kv,hg,h1,h2,h3,h4,h5⟩:=h;refine⟨_,_,run_range_map w t k e g es c ht hg,⟨es,c,kv,#[],((MapKept.heap_alloc w _).2 g hlt).trans hg,h1,h2,h3,h4,h5,(MapKept.heap_alloc w _).1,rfl,λi hi hi' hs=>by simp at hs⟩,aD w _,by simp⟩
theorem cU.next {b r cnt:Nat} {done:K->Prop} (h:cU w b r enc f done cnt)(ty:TypeId):
 ((∀x v,f x=some v->done x)/\(Instr.next (.pointer (some ⟨r,0,none⟩)) false ty).run P w=.ok (.tuple #[.bool false]) w)\/
 ∃x v w' cnt',f x=some v/\(Instr.next (.pointer (some ⟨r,0,none⟩)) false ty).run P w=.ok (.tuple #[.bool true,enc x,v]) w'/\cU w' b r enc f (λy=>done y\/y=x) cnt'/\cnt'<cnt/\Upd w w' (λk=>k=r)/\
  (Instr.entry (.pointer (some ⟨r,0,none⟩))).run P w'=.ok (.tuple #[enc x,v]) w':=by
 have hrl:=h.lt;obtain⟨es,c,kv,seen,hg,h1,h2,h3,h4,h5,hr,hc,hd⟩:=h;have hlen:es.size=kv.length:=by have:=congrArg List.length h1;simpa using this
 have hat:∀i (hi:i<es.size) (hi':i<kv.length),es[i].key=enc kv[i].1/\es[i].val=kv[i].2:=by
  intro i hi hi';have:=congrArg (λl=>l[i]?) h1;simp only[List.getElem?_map,Array.getElem?_toList,Array.getElem?_eq_getElem hi,List.getElem?_eq_getElem hi',Option.map_some,Option.some.injEq,Prod.mk.injEq]at this;exact this
 rcases run_next_at (P:=P) w ty r b c c seen es c hr hg h3 (Nat.le_refl _)with⟨h0,hrun⟩ | ⟨en,he,w1,hal,hrun⟩
 . refine .inl ⟨λx v hx=>?_,hrun⟩;rw[h2 x]at hx;cases hf:bD x kv 0 with
   | none=>rw[hf]at hx;cases hx
   | some p=>
    obtain⟨j,u⟩:=p;obtain⟨_,hj,hkv⟩:=fK x kv 0 j u hf;simp only[Nat.zero_add,Nat.sub_zero]at hj hkv;have hje:j<es.size:=(by omega);have hs:seen.contains es[j].born=true:=by
     have:leftOf es seen= #[]:=Array.eq_empty_of_size_eq_zero h0;unfold leftOf at this;rw[Array.filter_eq_empty_iff]at this;have:=this es[j] (by simp);simpa using this
    have h6:=hd j hje hj hs;rw[List.getElem?_eq_getElem hj]at hkv;injection hkv with hkv
    rw[hkv]at h6;exact h6
 have hem:en∈es.toList:=by unfold leftOf at he;simp at he ⊢;exact he.1
 have hns:seen.contains en.born=false:=by unfold leftOf at he;simp at he ⊢;exact he.2
 obtain⟨i,hi,hie⟩:=List.mem_iff_getElem.1 hem;have hi1:i<es.size:=by simpa using hi
 have hi2:i<kv.length:=by omega
 rw[Array.getElem_toList]at hie;subst hie;obtain⟨ek,ev⟩:=hat i hi1 hi2;have hup:Upd w (setBlock w1 r (.mapIter (some b) c (seen.push es[i].born) c)) (λk=>k=r):=by
  have hw:w1.heap=w.heap/\w1.os=w.os/\w1.tape=w.tape/\w1.output=w.output:=by rcases hal with rfl | rfl <;> exact⟨rfl,rfl,rfl,rfl⟩
  obtain⟨a1,a2,a3,a4⟩:=hw;refine⟨a2,a3,a4,by simp[setBlock,a1],λj hj hjr=>?_⟩;simp only[setBlock,a1,Array.getElem?_setIfInBounds];rw[if_neg (λe=>hjr e.symm)]
 have hrb:r≠b:=by
  rintro rfl;rw[hr]at hg;cases hg
 have hr':(setBlock w1 r (.mapIter (some b) c (seen.push es[i].born) c)).heap[r]? =some (.mapIter (some b) c (seen.push es[i].born) c):=by
  have hw:w1.heap=w.heap:=by rcases hal with rfl | rfl <;> rfl
  simp[setBlock,hw,hrl]
 have hg':=(hup.block b (Array.getElem?_eq_some_iff.1 hg).1 (Ne.symm hrb)).trans hg;refine .inr ⟨kv[i].1,kv[i].2,_,_,?_,by rw[hrun,ek,ev],⟨es,c,kv,seen.push es[i].born,hg',h1,h2,h3,h4,h5,hr',rfl,?_⟩,?_,hup,?_⟩
 . rw[h2];exact lA h5 (List.getElem_mem hi2)
 . intro j hj hj' hs;by_cases hb:seen.contains es[j].born=true
   . exact .inl (hd j hj hj' hb)
   right
   have hs2:es[j].born=es[i].born:=by
    simp only[Array.contains_push,Bool.or_eq_true,beq_iff_eq]at hs;rcases hs with hs | hs
    . exact absurd hs hb
    exact hs
   have:j=i:=by
    have hh:=(List.getElem_inj (xs:=es.toList.map (·.born)) (i:=j) (j:=i) (h₀:=by simpa using hj) (h₁:=by simpa using hi1) h4).1 (by simpa using hs2);exact hh
   subst this;rfl
 . rw[<-hc];exact aD2 hi1 hns
 have:=run_entry_at (P:=P) _ r b c seen es c es[i] hr' hg' (by simp) h4;rw[this,ek,ev]
def yT (w:World)(b r:Nat):Nat:=match w.heap[b]?,w.heap[r]? with
 | some (.map es _),some (.mapIter _ _ seen _)=>(leftOf es seen).size
 | _,_=>0
theorem cU.left {b r cnt:Nat} {done:K->Prop} (h:cU w b r enc f done cnt):yT w b r=cnt:=by
 obtain⟨es,c,kv,seen,hg,h1,h2,h3,h4,h5,hr,hc,hd⟩:=h;unfold yT;rw[hg,hr];exact hc
theorem cU.ne {b r cnt:Nat} {done:K->Prop} (h:cU w b r enc f done cnt):r≠b:=by
 obtain⟨es,c,kv,seen,hg,h1,h2,h3,h4,h5,hr,hc,hd⟩:=h;rintro rfl;rw[hr]at hg;cases hg
theorem cU.keep {b r cnt:Nat} {done:K->Prop} (h:cU w b r enc f done cnt)(hb:w'.heap[b]? =w.heap[b]?)(hr:w'.heap[r]? =w.heap[r]?):cU w' b r enc f done cnt:=by
 obtain⟨es,c,kv,seen,hg,k1,k2,k3,k4,k5,k6,k7⟩:=h;exact⟨es,c,kv,seen,hb.trans hg,k1,k2,k3,k4,k5,hr.trans k6,k7⟩
end
section
variable {P:Program} {K:Type} [DecidableEq K] {t k e:TypeId} {w:World} {g:Nat} {enc:K->Value} {f:K->Option Value} {ops:Array Oper} {rest:List Oper} {o:Oper} {a:Act} {Q:Exit->Act->World->Prop}
theorem sM (hgd:o.guard=none)(m:Operand)(ho:o.op=.range t m)(ht:P.underlying t=some (.map k e))(hm:a.eval m=.map (some g))(h:bK w g enc f)
 (hK:∀w' cnt,cU w' g w.heap.size enc f (λ_=>False) cnt->Below w.heap.size w w'->w'.heap.size=w.heap.size+1->wpList P ops Q rest (a.put o.dst (.pointer (some ⟨w.heap.size,0,none⟩))) w'):wpList P ops Q (o::rest) a w:=by
 refine wpList_plain hgd λK' hK'=>?_
 obtain⟨w',cnt,hr,h1,h2,h3⟩:=h.range ht;unfold Oper.wp execOp;simp only[ho,Sem.run_bind,hm,hr,Result.andThen_ok,Sem.run_pure];exact hK' _ _ (hK w' cnt h1 h2 h3)
theorem rY (hgd:o.guard=none)(m xo:Operand)(ho:o.op=.call {callee:=.builtin .delete,args:= #[m,xo],argTypes:= #[t,k]})(hT:KeyTy P k enc)(ht:P.underlying t=some (.map k e))(hm:a.eval m=.map (some g))(x:K)(hx:a.eval xo=enc x)(h:bK w g enc f)
 (hK:∀w',bK w' g enc (λy=>if y=x then none else f y)->Upd w w' (λk=>k=g)->wpList P ops Q rest (a.put o.dst (.tuple #[])) w'):wpList P ops Q (o::rest) a w:=by
 refine wpList_plain hgd λK' hK'=>?_
 obtain⟨w',hrun,h1,h2⟩:=h.delete hT ht x o.type;unfold Oper.wp;simp[execOp,ho,resolve,invoke,builtin,hm,hx,hrun,Result.andThen]
 exact hK' _ _ (hK w' h1 h2)
end
def JS.empty:JS:=⟨[],[],[],λ_=>none⟩
theorem JS.empty_ok:JS.empty.Ok:=⟨rfl,rfl,by simp[JS.empty],by simp[JS.empty]⟩
mutual
theorem uI:∀(t:Tm) (s:JS),∀l∈(cD t s).2.As,l∈s.As\/l.length<=aK t
 | .mk f xs,s=>by
  intro l hl;rw[cD]at hl;split at hl
  . exact .inl hl
  split at hl
  . simp only[List.mem_append,List.mem_singleton]at hl;rcases hl with hl | rfl
    . exact .inl hl
    exact .inr (by simp)
  simp only at hl;rcases List.mem_or_eq_of_mem_set hl with hl | rfl
  . rcases vS xs _ l hl with h | h
    . simp only[List.mem_append,List.mem_singleton]at h;rcases h with h | rfl
      . exact .inl h
      exact .inr (by simp)
    exact .inr (by simp only[aK];omega)
  rw[kI];have:=bL xs;exact .inr (by simp only[aK];omega)
theorem vS:∀(xs:List Tm) (s:JS),∀l∈(aX xs s).2.As,l∈s.As\/l.length<=aI xs
 | [],s=>λl h=>.inl h
 | x::xs,s=>by
  intro l hl;rw[aX]at hl;rcases vS xs _ l hl with h | h
  . rcases uI x s l h with h | h
    . exact .inl h
    exact .inr (by simp only[aI];omega)
  exact .inr (by simp only[aI];omega)
end
def uA (s:Tm):Nat:=(cD s .empty).1
def uB (s t:Tm):Nat:=(cD t (cD s .empty).2).1
def uS (s t:Tm):JS:=(cD t (cD s .empty).2).2
def uZ (s t:Tm):Nat:=aK s+aK t
def uK (s t:Tm):Nat:=1+(uZ s t+1)*uZ s t
def uJ (s t:Tm):Bool × (Nat->Nat):=cS (uS s t).T (uS s t).As (uK s t) [(uA s,uB s t)] id
structure UOk (s t:Tm):Prop where
 ok:(uS s t).Ok
 a:uA s<(uS s t).T.length
 b:uB s t<(uS s t).T.length
 ok1:(cD s .empty).2.Ok
 z1:(cD s .empty).2.T.length<=aK s
 z:(uS s t).T.length<=uZ s t
 A:∀l∈(uS s t).As,l.length<=uZ s t
theorem uOk (s t:Tm):UOk s t:=by
 obtain⟨h1,h2,h3,h4⟩:=eW s .empty JS.empty_ok;obtain⟨k1,k2,k3,k4⟩:=eW t (cD s .empty).2 h1;have h5:JS.empty.T.length=0:=rfl;refine⟨k1,Nat.lt_of_lt_of_le h4 k2,k4,h1,by omega,by unfold uS uZ;omega,λl hl=>?_⟩;rcases uI t _ l hl with h | h
 . rcases uI s _ l h with h | h
   . cases h
   unfold uZ;omega
 unfold uZ;omega
def aL9 (s t:Tm):Prop:=∀n,n<(uS s t).T.length->∃x,TreeR (uS s t).T (uS s t).As (uJ s t).2 n x
def aO0 (s t:Tm):Prop:=∀v n x,(uS s t).V v=some n->TreeR (uS s t).T (uS s t).As (uJ s t).2 n x->lM x<=300/\dF x<=30
open Classical in
noncomputable def rQ (s t:Tm)(n:Nat):Tm:=if h:∃x,TreeR (uS s t).T (uS s t).As (uJ s t).2 n x then Classical.choose h else .mk 0 []
noncomputable def nL (s t:Tm):Int->Option Tm:=λv=>match (uS s t).V v with
 | some n=>if (rQ s t n).fn=v then none else some (rQ s t n)
 | none=>none
def aP5 (s t:Tm):Prop:=(uJ s t).1=true/\aL9 s t/\aO0 s t
open Classical in
noncomputable def cB (s t:Tm):Option (Int->Option Tm):=if aP5 s t then some (nL s t)else none
theorem rR {s t:Tm} {n:Nat} {x:Tm} (h:TreeR (uS s t).T (uS s t).As (uJ s t).2 n x):rQ s t n=x:=by
 unfold rQ;have he:∃x,TreeR (uS s t).T (uS s t).As (uJ s t).2 n x:=⟨x,h⟩;rw[dif_pos he];exact TreeR.det _ _ _ (Classical.choose_spec he) h
theorem aC5:∀(Ps:List Nat),(∀i (h:i<Ps.length),Ps[i]=i)->Forest Ps id (λ_=>0):=λPs h=>
 ⟨λi hi=>by rw[h i hi];exact hi,λi hi=>by simp[h i hi],λi hi=>by simp[h i hi],λi hi hne=>absurd (h i hi) hne⟩
mutual
theorem uL:∀(t:Tm) (s:JS),s.Ok->(∀i (h:i<s.Ps.length),s.Ps[i]=i)->∀i (h:i<(cD t s).2.Ps.length),(cD t s).2.Ps[i]=i
 | .mk f xs,s,hs,hi=>by
  have hp:∀(V:Int->Option Nat),∀i (h:i<(s.Ps++[s.T.length]).length),(s.Ps++[s.T.length])[i]=i:=by
   intro _ i h;rw[List.getElem_append];split
   . exact hi i _
   rename_i h2
   simp only[List.length_append,List.length_singleton]at h;have:=hs.p;have:i=s.T.length:=by omega
   simp[this]
  intro i h;by_cases hV:(if f<0 then s.V f else none).isSome
  . obtain⟨n,hn⟩:=Option.isSome_iff_exists.1 hV;have e:(cD (.mk f xs) s).2=s:=(by rw[cD,hn]);have key:∀s':JS,s'=s->∀(h:i<s'.Ps.length),s'.Ps[i]=i:=(by rintro _ rfl;exact hi i);exact key _ e h
  have hn:(if f<0 then s.V f else none)=none:=by simpa using hV
  by_cases hf:f<0
  . have e:(cD (.mk f xs) s).2.Ps=s.Ps++[s.T.length]:=(by rw[cD,hn];simp[hf]);have key:∀l:List Nat,l=s.Ps++[s.T.length]->∀(h:i<l.length),l[i]=i:=(by rintro _ rfl;exact hp s.V i);exact key _ e h
  have e:(cD (.mk f xs) s).2.Ps=(aX xs ⟨s.T++[.mk f xs],s.As++[[]],s.Ps++[s.T.length],s.V⟩).2.Ps:=by rw[cD,hn];simp[hf]
  have hok:(JS.mk (s.T++[.mk f xs]) (s.As++[[]]) (s.Ps++[s.T.length]) s.V).Ok:=by
   refine⟨by simp[hs.a],by simp[hs.p],λx n h=>?_,λl hl n hn'=>?_⟩
   . have:=hs.v x n h;simp
     omega
   simp only[List.mem_append,List.mem_singleton]at hl;rcases hl with hl | rfl
   . have:=hs.ax l hl n hn';simp
     omega
   cases hn'
  have key:∀l:List Nat,l=(aX xs ⟨s.T++[.mk f xs],s.As++[[]],s.Ps++[s.T.length],s.V⟩).2.Ps->∀(h:i<l.length),l[i]=i:=by
   rintro _ rfl;exact vT xs _ hok (hp s.V) i
  exact key _ e h
theorem vT:∀(xs:List Tm) (s:JS),s.Ok->(∀i (h:i<s.Ps.length),s.Ps[i]=i)->∀i (h:i<(aX xs s).2.Ps.length),(aX xs s).2.Ps[i]=i
 | [],s,hs,hi=>hi
 | x::xs,s,hs,hi=>by
  have h1:=eW x s hs;exact vT xs (cD x s).2 h1.1 (uL x s hs hi)
end
theorem aM0 (s t:Tm):Forest (uS s t).Ps id (λ_=>0):=
 aC5 _ (uL t _ (uOk s t).ok1 (uL s _ JS.empty_ok (λi h=>by simp[JS.empty]at h)))
theorem nQ (w:World)(o1 o2 o3 o4:Obj):((((w.alloc o1).alloc o2).alloc o3).alloc o4).heap[w.heap.size]? =some o1/\((((w.alloc o1).alloc o2).alloc o3).alloc o4).heap[w.heap.size+1]? =some o2/\((((w.alloc o1).alloc o2).alloc o3).alloc o4).heap[w.heap.size+2]? =some o3/\
 ((((w.alloc o1).alloc o2).alloc o3).alloc o4).heap[w.heap.size+3]? =some o4/\Below w.heap.size w ((((w.alloc o1).alloc o2).alloc o3).alloc o4)/\((((w.alloc o1).alloc o2).alloc o3).alloc o4).heap.size=w.heap.size+4:=by
 obtain⟨h1,h2,h3,h4,h5⟩:=fW w o1 o2 o3;refine⟨?_,?_,?_,?_,h4.trans ((aD _ o4).mono (by rw[h5];omega)),by rw[cQ,h5]⟩
 . rw[cY,if_neg (by rw[h5];omega),h1]
 . rw[cY,if_neg (by rw[h5];omega),h2]
 . rw[cY,if_neg (by rw[h5];omega),h3]
 rw[cY,if_pos (by rw[h5])]
theorem JR.empty {w:World} {B bj gm:Nat} {X:Nat->Prop} (hbox:w.heap[bj]? =some (.cells #[.slice none 0 0,.slice none 0 0,.slice none 0 0,.map (some gm)] 134 (0,0)))(hm:w.heap[gm]? =some (.map #[] 0))(hj:B<=bj)(hg:B<=gm)
 (hX:∀b,X b->b≠bj/\b≠gm/\b<w.heap.size):JR B X bj gm .empty (.slice none 0 0) (.slice none 0 0) (.slice none 0 0) w:=
 ⟨
  hbox,hj,hg,⟨#[],0,[],hm,rfl,λ_=>rfl,by simp,by simp,by simp⟩,⟨[],Own.nil _ _ _ _,rfl,λk h=>by simp[JS.empty]at h⟩,⟨[],Own.nil _ _ _ _,rfl,λk h=>by simp[JS.empty]at h⟩,Own.nil _ _ _ _,λb hb=>⟨by
  obtain⟨h1,h2,h3⟩:=hX b hb;rintro(e | e | e | e | e)
  . exact h1 e
  . exact h2 e
  . cases e
  . cases e
  (cases e),(hX b hb).2.2⟩⟩
theorem aN8 {w:World} {gk:Nat} {Kn:KnF} (h:bK w gk cE (λx=>(Kn x).map nS))(x:Int):
 (Instr.lookup 137 (.map (some gk)) (.int .i64 x) false).run Try.prog w=.ok (((Kn x).map nS).getD (.agg #[.int .i64 0,.int .i64 0,.bool false])) w:=by
 have:=h.lookup fT Try.underlying137 (uF w) x;simpa [cE]using this
open Classical in
noncomputable def oK (done:Int->Prop)(σ:Int->Option Tm):Int->Option Tm:=λv=>if done v then σ v else none
theorem aF3 (σ:Int->Option Tm):oK (λ_=>False) σ=λ_=>none:=by funext v;simp[oK]
theorem aJ4 {done:Int->Prop} {σ:Int->Option Tm} (h:∀v t,σ v=some t->done v):oK done σ=σ:=by
 funext v
 unfold oK;split
 . rfl
 rename_i hd
 cases hs:σ v with
 | none=>rfl
 | some t=>exact absurd (h v t hs) hd
theorem aF2 {done:Int->Prop} {σ:Int->Option Tm} {x:Int} {t:Tm} (h:σ x=some t):(λy=>if y=x then some t else oK done σ y)=oK (λy=>done y\/y=x) σ:=by
 funext y
 unfold oK;by_cases hy:y=x
 . subst hy;simp[h]
 rw[if_neg hy];by_cases hd:done y
 . rw[if_pos hd,if_pos (.inl hd)]
 rw[if_neg hd,if_neg (by rintro(h | h);exact hd h;exact hy h)]
theorem aF4 {done:Int->Prop} {σ:Int->Option Tm} {x:Int} (h:σ x=none):oK done σ=oK (λy=>done y\/y=x) σ:=by
 funext y
 unfold oK;by_cases hy:y=x
 . subst hy;simp[h]
 by_cases hd:done y
 . rw[if_pos hd,if_pos (.inl hd)]
 rw[if_neg hd,if_neg (by rintro(h | h);exact hd h;exact hy h)]
theorem gB.own {w:World} {P:Nat->Prop} {g:Nat} {σ:Int->Option Tm} (h:gB w P (.map (some g)) σ):
 ∃vals:Int->Value,bK w g cE (λx=>(σ x).map λt=>.agg #[.int .i64 t.fn,vals x])/\∀x t,σ x=some t->RdP w P (.sl 2 (aH t.args)) (vals x):=by
 rcases h with⟨e,_⟩ | ⟨g',vals,e,h1,h2⟩
 . cases e
 injection e with e
 injection e with e
 subst e;exact⟨vals,h1,h2⟩
theorem gB.stored {w w':World} {P:Nat->Prop} {g:Nat} {σ:Int->Option Tm} {vals:Int->Value} (h2:∀x t,σ x=some t->RdP w P (.sl 2 (aH t.args)) (vals x)) {x:Int} {t:Tm} {v:Value} (hu:Upd w w' (λk=>k=g))(hP:∀b,P b->b≠g)
 (hr:RdP w P (.sl 2 (aH t.args)) v) (hm:bK w' g cE (λy=>if y=x then some (.agg #[.int .i64 t.fn,v])else(σ y).map λt=>.agg #[.int .i64 t.fn,vals y])):gB w' P (.map (some g)) (λy=>if y=x then some t else σ y):=by
 refine .inr ⟨g,λy=>if y=x then v else vals y,rfl,hm.congr λy=>?_,λy u hy=>?_⟩
 . by_cases h:y=x
   . simp[h]
   simp[h]
 by_cases h:y=x
 . simp only[h,if_true,Option.some.injEq]at hy ⊢;subst hy;exact hr.upd hu (λb hb _=>hP b hb)
 simp only[h,if_false]at hy ⊢;exact(h2 y u hy).upd hu (λb hb _=>hP b hb)
def aN4 (r:Option (Int->Option Tm))(w:World)(e:Ending)(w':World):Prop:=
 ∃mv,e=.returned (.tuple #[mv,.bool r.isSome])/\gB w' (λb=>w.heap.size<=b) mv (r.getD λ_=>none)/\Below w.heap.size w w'
theorem oL (f1 f2:Int)(xs1 xs2:List Tm)(v1 v2:Value)(B0:Nat)(w:World)(hr1:Rd w B0 (.sl 2 (aH xs1)) v1)(hr2:Rd w B0 (.sl 2 (aH xs2)) v2)(hB:B0<=w.heap.size)(hz1:aI xs1<=1000)(hz2:aI xs2<=1000):
 Calls Try.prog 68 #[.agg #[.int .i64 f1,v1],.agg #[.int .i64 f2,v2]] w (aN4 (cB (.mk f1 xs1) (.mk f2 xs2)) w):=by
 obtain⟨s,hs⟩:∃s,Tm.mk f1 xs1=s:=⟨_,rfl⟩;obtain⟨t,ht⟩:∃t,Tm.mk f2 xs2=t:=⟨_,rfl⟩;have hO:=uOk s t;have hFo:=aM0 s t;have hzs:aK s<=1001:=by rw[<-hs];simp only[aK];omega
 have hzt:aK t<=1001:=by rw[<-ht];simp only[aK];omega
 have hZ:uZ s t<=2002:=by unfold uZ;omega
 have HO:=Lh hO;have HFo:=Lh hFo;have Hs:=Lh hs;have Ht:=Lh ht;have Hr1:=Lh hr1;have Hr2:=Lh hr2;obtain⟨A1,c1,rfl,-⟩:=hr1.tm_form;obtain⟨A2,c2,rfl,-⟩:=hr2.tm_form;obtain⟨x1,x2,x3,x4,hB4,hz4⟩:=nQ w (.cells #[.int .i64 f1,.slice A1 xs1.length c1] 87) (.cells #[.int .i64 f2,.slice A2 xs2.length c2] 87) (.map #[] 0) (.cells #[.slice none 0 0,.slice none 0 0,.slice none 0 0,.map (some (w.heap.size+2))] 134);rw[hs,ht];clear hO hFo hs ht hr1 hr2;go_enter Try.func68,Try.ntmps68;have hmm:= @run_makeMap Try.prog;go_upto_region 2 with fail
 clear hmm;simp only[Nat.add_assoc,Nat.reduceAdd];have hb2:aL w.heap.size 87 (.int .i64 f1) (.slice A1 xs1.length c1) _:=x1;have hb3:aL (w.heap.size+1) 87 (.int .i64 f2) (.slice A2 xs2.length c2) _:=x2;have hj4:JR w.heap.size (λb=>b=w.heap.size\/b=w.heap.size+1) (w.heap.size+3) (w.heap.size+2) .empty (.slice none 0 0) (.slice none 0 0) (.slice none 0 0) _:=JR.empty x4 x3 (by omega) (by omega) (by rintro b (rfl | rfl) <;> omega);have hbw4:=hB4;generalize ((((w.alloc (.cells #[.int .i64 f1,.slice A1 xs1.length c1] 87)).alloc (.cells #[.int .i64 f2,.slice A2 xs2.length c2] 87)).alloc (.map #[] 0)).alloc (.cells #[.slice none 0 0,.slice none 0 0,.slice none 0 0,.map (some (w.heap.size+2))] 134))=w4 at hb2 hb3 hj4 hbw4 hz4 ⊢;have Hb2:=Lh hb2;have Hb3:=Lh hb3;have Hj4:=Lh hj4;have Hbw4:=Lh hbw4;clear x1 x2 x3 x4 hB4 hb2 hb3 hj4 hbw4;refine rg 9 (λ_ w'=>aL w.heap.size 87 (.int .i64 f1) (.slice A1 xs1.length c1) w'/\aL (w.heap.size+1) 87 (.int .i64 f2) (.slice A2 xs2.length c2) w') ?_;intro wd hwd hbd;refine⟨?_,λhS=>?_⟩
 . exact⟨Hb2.out.low (hwd ▸ hbd),Hb3.out.low (hwd ▸ hbd)⟩
 refine ta 0 (.pointer (some ⟨w.heap.size+3,0,none⟩)) hS λhS=>?_
 refine ta 1 (.pointer (some ⟨w.heap.size+3,0,none⟩)) hS λhS=>?_
 refine tk 2 (.agg #[.int .i64 f1,.slice A1 xs1.length c1]) hS ?_ λhS=>?_
 . intro w' L hn hw;have o2:=hw.1.cells;simp[execOp,go_sem,o2.1,o2.2.1]
 refine ta 4 (.pointer (some ⟨w.heap.size+3,0,none⟩)) hS λhS=>?_
 refine tk 5 (.agg #[.int .i64 f2,.slice A2 xs2.length c2]) hS ?_ λhS=>?_
 . intro w' L hn hw;have o3:=hw.2.cells;simp[execOp,go_sem,o3.1,o3.2.1]
 refine so 3 ?_;have hbd4:Below w4.heap.size w4 wd:=hwd ▸ hbd;have hzd:wd.heap.size=w4.heap.size:=by rw[hwd]
 have hjd:=Hj4.out.low hbd4;have hlowd:Below w.heap.size w wd:=Hbw4.out.trans (hbd4.mono (by omega));have hc3:=zU w.heap.size (w.heap.size+3) (w.heap.size+2) (aI xs1+1) (λb=>b=w.heap.size\/b=w.heap.size+1) f1 xs1 (.slice A1 xs1.length c1) .empty (.slice none 0 0) (.slice none 0 0) (.slice none 0 0) wd (by omega) ((Hr1.out.low hlowd hB).more hB) hjd JS.empty_ok (by show 0+_<=_;omega);refine aG ?_ hc3 ?_
 . simp[execOp,resolve,invoke,go_sem]
 rintro e w6 ⟨rfl,vt6,va6,vp6,hj6,hg6⟩;rw[Hs.out]at hj6 ⊢;refine⟨_,rfl,?_⟩;have hlow6:Below w.heap.size w w6:=hlowd.trans (hg6.upd.toLow (by omega) (λk e=>(hjd.own k e).1));refine gS ?_ λhS=>?_
 . exact⟨hS.1.upd hg6.upd (hjd.hX _ (.inl rfl)).1,hS.2.upd hg6.upd (hjd.hX _ (.inr rfl)).1⟩
 refine so 6 ?_;have hz1':=HO.out.z1;have hc6:=zU w.heap.size (w.heap.size+3) (w.heap.size+2) (aI xs2+1) (λb=>b=w.heap.size\/b=w.heap.size+1) f2 xs2 (.slice A2 xs2.length c2) (cD s .empty).2 vt6 va6 vp6 w6 (by omega) ((Hr2.out.low hlow6 hB).more hB) hj6 HO.out.ok1 (by omega);refine aG ?_ hc6 ?_
 . simp[execOp,resolve,invoke,go_sem]
 rintro e w7 ⟨rfl,vt7,va7,vp7,hj7,hg7⟩;rw[Ht.out]at hj7 ⊢;refine⟨_,rfl,?_⟩;have hlow7:Below w.heap.size w w7:=hlow6.trans (hg7.upd.toLow (by have:=hlow6.size;omega) (λk e=>(hj6.own k e).1));refine gS ?_ λhS=>?_
 . exact⟨hS.1.upd hg7.upd (hj6.hX _ (.inl rfl)).1,hS.2.upd hg7.upd (hj6.hX _ (.inr rfl)).1⟩
 refine so 7 ?_;have hN7:=HO.out.z;have hcn:(uZ s t+1)*cnt id (uS s t).T.length<=(uZ s t+1)*uZ s t:=Nat.mul_le_mul_left _ (Nat.le_trans (aG7 _ _) hN7);have hcm:(uZ s t+1)*uZ s t<=2003*2002:=Nat.mul_le_mul (by omega) (by omega);have hc7:=aH4 w.heap.size (w.heap.size+3) (w.heap.size+2) (uS s t) id (λ_=>0) (uA s) (uB s t) vt7 va7 vp7 w7 (uK s t) (uZ s t) hj7.toNo HFo.out HO.out.ok HO.out.a HO.out.b HO.out.A (by omega) (by unfold uK;omega) (by unfold uK;omega);rw[show (cS (uS s t).T (uS s t).As (uK s t) [(uA s,uB s t)] id)=uJ s t from rfl]at hc7;refine aG ?_ hc7 ?_
 . simp[execOp,resolve,invoke,go_sem]
   exact⟨rfl,rfl⟩
 rintro e w8 ⟨rfl,Ps8,d8,hj8,hg8,hf8,hl8⟩;refine⟨_,rfl,?_⟩;have hlow8:Below w.heap.size w w8:=hlow7.trans (hg8.upd.toLow (by have:=hlow7.size;omega) (λk e=>(hj7.own k e).1));refine gS ?_ λhS=>?_
 . exact⟨hS.1.upd hg8.upd (hj7.hX _ (.inl rfl)).1,hS.2.upd hg8.upd (hj7.hX _ (.inr rfl)).1⟩
 refine ta 8 (.bool (!(uJ s t).1)) hS λhS=>?_
 refine dn ?_;have hgood:∀h:(uJ s t).1=false,cB s t=none:=λh=>by
  unfold cB;rw[if_neg];rintro⟨h1,-⟩;rw[h]at h1;cases h1
 have hz48:w4.heap.size<=w8.heap.size:=by have:=hg6.upd.size;have:=hg7.upd.size;have:=hg8.upd.size;omega
 obtain⟨rep,hrep⟩:∃rep,(uJ s t).2=rep:=⟨_,rfl⟩;have hf8:Forest Ps8 (uJ s t).2 d8:=hf8;rw[hrep]at hf8;have hl8:Ps8.length=(uS s t).T.length:=hl8.trans HO.out.ok.p;have Hj8:=Lh hj8;have Hf8:=Lh hf8;have Hl8:=Lh hl8;have Hlow8:=Lh hlow8;have Hrep:=Lh hrep;clear hj8 hf8 hl8 hlow8 hrep hg8 hj7 hg7 hlow7 hj6 hg6 hlow6 hjd hlowd hbd4 hzd hS hwd hbd;cases hJ:(uJ s t).1 with
 | false=>
  have Hu:=Lh (hgood hJ);clear hgood hJ;go_wp2_with fail;rw[Hu.out];refine bodyPost_ret (v:=.tuple #[.map none,.bool false]) (by simp[results,Try.results68,go_sem]) rfl ⟨_,rfl,.inl ⟨rfl,λ_=>rfl⟩,Hlow8.out⟩
 | true=>
  have HJ:=Lh hJ;clear hgood hJ;simp only[Bool.not_true];have hmm:= @run_makeMap Try.prog;go_upto_region 5 with fail
  have hrf:∀h:¬aL9 s t,cB s t=none:=λh=>by
   unfold cB;rw[if_neg];rintro⟨-,h1,-⟩;exact h h1
  have hbx9:=aD w8 (.map #[] 0);have hm9:bK (w8.alloc (.map #[] 0)) w8.heap.size cE (λx=>((λ_=>none:KnF) x).map nS):=bK.made w8 cE;have hz9:(w8.alloc (.map #[] 0)).heap.size=w8.heap.size+1:=by simp
  generalize w8.alloc (.map #[] 0)=w9 at hbx9 hm9 hz9 ⊢;obtain⟨N,hN⟩:∃N,(uS s t).T.length=N:=⟨_,rfl⟩;have hNz:=HO.out.z;have hl8:Ps8.length=N:=by rw[Hl8.out,hN]
  have hz08:=Hlow8.out.size;obtain⟨gt,ct,-,-,hvt,-⟩:=Hj8.out.tm_at (k:=uA s) HO.out.a;dsimp only at hvt
  rw[hN]at hvt hNz;subst hvt;have hI9:fV w.heap.size noB (w.heap.size+3) (w.heap.size+2) w8.heap.size (uS s t) rep d8 N (λ_=>none) (.slice (some ⟨gt,0,none⟩) N ct) va7 vp7 w9:=
   ⟨hz08,λh=>h,λ_ h=>h.elim,hm9,Ps8,Hj8.out.ofNo hbx9 (by rintro b (rfl | e);exact⟨Nat.le_refl _,by omega⟩;exact e.elim),Hf8.out,hl8⟩
  have hI9':=hI9;obtain⟨-,-,-,-,Ps9,hj9,-,-⟩:=hI9';obtain⟨z0,-,-,-,-⟩:=hj9.cells;have hlow9:Below w.heap.size w w9:=Hlow8.out.trans (hbx9.mono hz08);have HI9:=Lh hI9;have HN:=Lh hN;have Hlow9:=Lh hlow9;have Hrf:=Lh hrf;clear hI9 hj9 hlow9 hm9 hbx9 hN hrf hmm Hj8 Hf8 Hl8 hl8;go_wp2_with fail;go_loopw [34] (λi wr=>∃k:Nat,k<=N/\i=.int .i64 k/\∃Kn:KnF,fV w.heap.size noB (w.heap.size+3) (w.heap.size+2) w8.heap.size (uS s t) rep d8 N Kn (.slice (some ⟨gt,0,none⟩) N ct) va7 vp7 wr/\aG1 (uS s t).T (uS s t).As rep N Kn/\
   (∀y:Nat,Kn (y:Int)≠some none)/\(∀m:Nat,m<k->∃x,TreeR (uS s t).T (uS s t).As rep m x/\Kn (rep m:Nat)=some (some (gX x)))/\Below w.heap.size w wr) (λi _=>N-(intOf i).toNat)
  case atStart=>exact⟨0,Nat.zero_le _,rfl,_,HI9.out,(λm p h=>nomatch h),(λy h=>nomatch h),(λm h=>by omega),Hlow9.out⟩
  obtain⟨k,hk,rfl,Kn,hIr,hkr,hbr,hdr,hlr⟩:=hrel;have hzr:=hlr.size;have HIr:=Lh hIr;have Hkr:=Lh hkr;have Hbr:=Lh hbr;have Hdr:=Lh hdr;have Hlr:=Lh hlr;clear hIr hkr hbr hdr hlr z0;by_cases hlt:k<N
  . by_cases hT:∃x,TreeR (uS s t).T (uS s t).As rep k x
    . have HT:=Lh hT;clear hT;go_wp2_with (
       go_at_call 89
       refine(zV w.heap.size (w.heap.size+3) (w.heap.size+2) w8.heap.size (uS s t) rep d8 N (.slice (some ⟨gt,0,none⟩) N ct) va7 vp7 HO.out.ok HN.out (by omega) (N+1) noB k Kn _ (Nat.lt_succ_of_le (uT _ _)) HIr.out hlt Hkr.out (λm h=>absurd h (Hbr.out m))).mono ?_;rintro e w6 ⟨hup6,hcase⟩;rcases hcase.symm with⟨hno,-⟩ | ⟨Kn2,x2,hI2,hx2,rfl,hk2,hd2,hb2,hq2⟩
       . exact absurd HT.out hno
       have hz6:=hup6.size;have Hup6:=Lh hup6;have HI2:=Lh hI2;have Hx2:=Lh hx2;have Hk2:=Lh hk2;have Hd2:=Lh hd2;have Hb2':=Lh hb2;have Hq2:=Lh hq2;clear hup6 hI2 hx2 hk2 hd2 hb2 hq2)
      go_roundw
      case rel=>
       refine⟨k+1,by omega,by go_num,Kn2,HI2.out.low (aD _ _),Hk2.out,λy h=>Hbr.out y ((Hb2'.out y).1 h),λm hm=>?_,?_⟩
       . by_cases hmk:m<k
         . obtain⟨x,h1,h2⟩:=Hdr.out m hmk;exact⟨x,h1,Hd2.out (rep m) _ h2⟩
         obtain rfl:m=k:=by omega
         exact⟨x2,Hx2.out,Hq2.out⟩
       exact(Hlr.out.trans (Hup6.out.toLow (by omega) (λk e=>(HIr.out.lt k e).2))).trans ((aD _ _).mono (by omega))
      case measure=>simp[intOf];omega
    have HT:=Lh hT;clear hT;go_wp2_with (
     go_at_call 89
     refine(zV w.heap.size (w.heap.size+3) (w.heap.size+2) w8.heap.size (uS s t) rep d8 N (.slice (some ⟨gt,0,none⟩) N ct) va7 vp7 HO.out.ok HN.out (by omega) (N+1) noB k Kn _ (Nat.lt_succ_of_le (uT _ _)) HIr.out hlt Hkr.out (λm h=>absurd h (Hbr.out m))).mono ?_;rintro e w6 ⟨hup6,hcase⟩;rcases hcase with⟨Kn2,x2,hI2,hx2,rfl,hk2,hd2,hb2,hq2⟩ | ⟨hno,Kn2,c0,c1,c2,hI2,rfl⟩
     . exact absurd ⟨x2,hx2⟩ HT.out
     have hz6:=hup6.size;have Hup6:=Lh hup6;have HI2:=Lh hI2;clear hup6 hI2)
    have hna:¬aL9 s t:=λh=>HT.out (by
     have:=h k (by rw[HN.out];exact hlt);rw[Hrep.out]at this;exact this)
    have hno:=Hrf.out hna;have hfl:Below w.heap.size w (w6.alloc (.cells #[.int .i64 c0,.int .i64 c1,.bool c2] 139)):=(Hlr.out.trans (Hup6.out.toLow (by omega) (λk e=>(HIr.out.lt k e).2))).trans ((aD _ _).mono (by omega));rw[hno];refine bodyPost_ret (v:=.tuple #[.map none,.bool false]) (by simp[results,Try.results68,go_sem]) rfl ⟨_,rfl,.inl ⟨rfl,λ_=>rfl⟩,hfl⟩
  obtain rfl:N=k:=by omega
  obtain⟨wo,rfl⟩:∃wo:World,wo=wr:=⟨_,rfl⟩;have hall:aL9 s t:=λn hn=>by
   rw[HN.out]at hn;obtain⟨x,h1,-⟩:=Hdr.out n hn;rw[Hrep.out];exact⟨x,h1⟩
  have Hall:=Lh hall;have hmm:= @run_makeMap Try.prog;obtain⟨-,-,-,hmk,Psr,hjr,hfr,hlr⟩:=HIr.out;have Hmk:=Lh hmk;have Hjr:=Lh hjr;have Hfr:=Lh hfr;have Hlr2:=Lh hlr;have hbxu:=aD wo (.map #[] 0);have hmu:bK (wo.alloc (.map #[] 0)) wo.heap.size cE (λ_=>none):=bK.made wo cE;clear hall hmk hjr hfr hlr;go_upto_region 13 with fail
  clear hmm;have hzu:(wo.alloc (.map #[] 0)).heap.size=wo.heap.size+1:=by simp
  generalize wo.alloc (.map #[] 0)=wu at hbxu hmu hzu ⊢;have hgkr:w8.heap.size<wo.heap.size:=Hmk.out.lt;have hju:JR w.heap.size (λb=>b=w8.heap.size\/b=wo.heap.size) (w.heap.size+3) (w.heap.size+2) ⟨(uS s t).T,(uS s t).As,Psr,(uS s t).V⟩ (.slice (some ⟨gt,0,none⟩) N ct) va7 vp7 wu:=
   Hjr.out.updX (Upd.low hbxu (λ_=>False)) (λ_ h=>h.elim) (by rintro b (rfl | rfl);exact .inl (.inl rfl);exact .inr (by omega))
  have hmk:=Hmk.out.low hbxu;obtain⟨-,-,-,z3,-⟩:=hju.cells;have Hju:=Lh hju;have Hmu:=Lh hmu;have Hmku:=Lh hmk;have Hbxu:=Lh hbxu;clear hju hmu hmk hbxu Hjr Hmk;go_wp2_with (
   at_range
   refine sM rfl (.tmp 51) rfl Try.underlying94 rfl (by exact Hju.out.hm) ?_;intro w3 cnt hrg hb3 hz3;rw[hzu]at hrg hz3;have Hrg:=Lh hrg;have Hb3':=Lh hb3;clear hrg hb3)
  have hj3:JR w.heap.size (λb=>b=w8.heap.size\/b=wo.heap.size\/b=wo.heap.size+1) (w.heap.size+3) (w.heap.size+2) ⟨(uS s t).T,(uS s t).As,Psr,(uS s t).V⟩ (.slice (some ⟨gt,0,none⟩) N ct) va7 vp7 w3:=
   Hju.out.updX (Upd.low Hb3'.out (λ_=>False)) (λ_ h=>h.elim) (by rintro b (rfl | rfl | rfl);exact .inl (.inl rfl);exact .inl (.inr rfl);exact .inr (by omega))
  have hmk3:=Hmku.out.low Hb3'.out;have hU3:gB w3 (λb=>w3.heap.size<=b) (.map (some wo.heap.size)) (oK (λ_=>False) (nL s t)):=by
   rw[aF3];exact .inr ⟨wo.heap.size,λ_=>undef,rfl,(Hmu.out.low Hb3'.out).congr (λx=>rfl),λx t h=>by cases h⟩
  have hlow3:Below w.heap.size w w3:=(Hlr.out.trans (Hbxu.out.mono (by omega))).trans (Hb3'.out.mono (by omega));have Hj3:=Lh hj3;have Hmk3:=Lh hmk3;have HU3:=Lh hU3;have Hlow3:=Lh hlow3;have hjo:=hj3.own;have Hjo:=Lh hjo;clear hj3 hmk3 hU3 hlow3 hjo z3;go_loopw [] (λwl=>∃(done:Int->Prop) (cnt:Nat) (Ps':List Nat),cU wl (w.heap.size+2) (wo.heap.size+1) cE (λx=>((uS s t).V x).map dJ) done cnt/\gB wl (λb=>w3.heap.size<=b) (.map (some wo.heap.size)) (oK done (nL s t))/\
   JR w.heap.size (λb=>b=w8.heap.size\/b=wo.heap.size\/b=wo.heap.size+1) (w.heap.size+3) (w.heap.size+2) ⟨(uS s t).T,(uS s t).As,Ps',(uS s t).V⟩ (.slice (some ⟨gt,0,none⟩) N ct) va7 vp7 wl/\Forest Ps' rep d8/\Ps'.length=N/\bK wl w8.heap.size cE (λx=>(Kn x).map nS)/\
   Below w.heap.size w wl/\w3.heap.size<=wl.heap.size/\∀v n x,done v->(uS s t).V v=some n->TreeR (uS s t).T (uS s t).As rep n x->lM x<=300/\dF x<=30) (λwl=>yT wl (w.heap.size+2) (wo.heap.size+1))
  case atStart=>exact⟨_,cnt,Psr,Hrg.out,HU3.out,Hj3.out,Hfr.out,Hlr2.out,Hmk3.out,Hlow3.out,Nat.le_refl _,λ_ _ _ h=>h.elim⟩
  obtain⟨done,cnt2,Psl,hrgl,hUl,hjl,hfl,hll,hmkl,hlowl,hzl,hsl⟩:=hrel;have hleft:=hrgl.left;rcases hrgl.next (P:=Try.prog) 0 with⟨hdone,hrun⟩ | ⟨v,u,w4',cnt3,hv,hrun,hrg4,hclt,hup4,hen⟩
  . have hres:cB s t=some (nL s t):=by
     unfold cB;rw[if_pos];refine⟨HJ.out,Hall.out,λv n x hv hx=>?_⟩;rw[Hrep.out]at hx;exact hsl v n x (hdone v (dJ n) (by rw[hv];rfl)) hv hx
    have hsub:oK done (nL s t)=nL s t:=aJ4 λv x hvx=>by
     unfold nL at hvx;cases hV:(uS s t).V v with
     | none=>rw[hV]at hvx;cases hvx
     | some n=>exact hdone v (dJ n) (by rw[hV];rfl)
    rw[hsub]at hUl;have Hres:=Lh hres;have HUl:=Lh hUl;have Hlowl:=Lh hlowl;clear hres hsub hUl hlowl hrgl hjl hfl hll hmkl hsl hleft hdone;go_wp2_with fail;rw[Hres.out];refine bodyPost_ret (v:=.tuple #[.map (some wo.heap.size),.bool true]) (by simp[results,Try.results68,go_sem]) rfl ⟨_,rfl,HUl.out.more (λb hb _=>by omega),Hlowl.out⟩
  obtain⟨n,hVn,rfl⟩:=Option.map_eq_some_iff.1 hv;simp only[cE,dJ]at hrun hen;have hnN:n<N:=by have:=HO.out.ok.v v n hVn;rw[HN.out]at this;exact this
  obtain⟨x,hx,hkx⟩:=Hdr.out n hnN;have hjo:=Hjo.out;have hgz:w.heap.size+2<=w8.heap.size:=by omega
  have hj4:=hjl.updX (X':=λb=>b=w8.heap.size\/b=wo.heap.size\/b=wo.heap.size+1) hup4 (λb e=>by subst e;exact⟨by omega,.inl (.inr (.inr rfl))⟩) (λb e=>.inl e);have hU4:=hUl.upd hup4 (λb hb _=>by omega) (λg e=>by injection e with e;injection e with e;omega);have hmk4:=hmkl.upd hup4 (by omega);have hlow4:Below w.heap.size w w4':=hlowl.trans (hup4.toLow (by omega) (λk e=>by omega));have hz4':=hup4.size;have hleft4:=hrg4.left;have Hj4':=Lh hj4;have HU4:=Lh hU4;have Hmk4:=Lh hmk4;have Hlow4:=Lh hlow4;have Hrg4:=Lh hrg4;have Hfl:=Lh hfl;have Hll:=Lh hll;have HVn:=Lh hVn;have Hx:=Lh hx;have Hkx:=Lh hkx;have Hsl:=Lh hsl;have Hleft:=Lh hleft;have Hleft4:=Lh hleft4;have hn5:n<Psl.length:=by omega
  clear hj4 hU4 hmk4 hlow4 hrg4 hfl hVn hx hkx hsl hrgl hjl hUl hmkl hlowl hv hjo hup4 hleft hleft4;go_upto_region 17 with(
   go_at_call 90
   refine(oH w.heap.size (λb=>b=w8.heap.size\/b=wo.heap.size\/b=wo.heap.size+1) (w.heap.size+3) (w.heap.size+2) ⟨(uS s t).T,(uS s t).As,Psl,(uS s t).V⟩ rep d8 n (.slice (some ⟨gt,0,none⟩) N ct) va7 vp7 _ Hj4'.out Hfl.out hn5).mono ?_;rintro e w5 ⟨⟨rfl,Ps5,hj5,hg5,hf5,hl5⟩,hgk5⟩;have hz5:=hg5.upd.size;have hmk5:=Hmk4.out.upd hg5.upd (Hj4'.out.hX _ (.inl rfl)).1;have hlk:=aN8 hmk5 (rep n:Nat);rw[Hkx.out]at hlk;simp only[Option.map_some,Option.getD_some,nS,gX]at hlk;have hU5:=HU4.out.upd hg5.upd (λb hb _ e=>by have:=(Hjo.out b e).2;omega) (λg e=>by injection e with e;injection e with e;exact e ▸ (Hj4'.out.hX _ (.inr (.inl rfl))).1);have hlow5:=Hlow4.out.trans (hg5.upd.toLow (by omega) (λk e=>(Hjo.out k e).1));have hrg5:=Hrg4.out.keep hgk5 (hg5.upd.block _ (Hrg4.out.lt) (Hj4'.out.hX _ (.inr (.inr rfl))).1);have Hj5:=Lh hj5;have Hf5:=Lh hf5;have Hl5:=Lh hl5;have Hmk5:=Lh hmk5;have HU5:=Lh hU5;have Hlow5:=Lh hlow5;have Hrg5:=Lh hrg5;clear hj5 hf5 hl5 hmk5 hU5 hlow5 hrg5 hg5 hgk5)
  obtain⟨c0,hc0⟩:∃c0,lM x=c0:=⟨_,rfl⟩;obtain⟨c1,hc1⟩:∃c1,dF x=c1:=⟨_,rfl⟩;rw[hc0,hc1];have hbx5:=aD w5 (.cells #[.int .i64 (c0:Nat),.int .i64 (c1:Nat),.bool false] 139);have hbe5:fG w5.heap.size 139 (.int .i64 (c0:Nat)) (.int .i64 (c1:Nat)) (.bool false) (w5.alloc (.cells #[.int .i64 (c0:Nat),.int .i64 (c1:Nat),.bool false] 139)):=heap_alloc_new w5 _;generalize w5.alloc (.cells #[.int .i64 (c0:Nat),.int .i64 (c1:Nat),.bool false] 139)=w6 at hbx5 hbe5 ⊢;obtain⟨y0,y1,-,-⟩:=hbe5.cells;have Hbx5:=Lh hbx5;have Hc0:=Lh hc0;have Hc1:=Lh hc1;clear hbx5 hbe5 hc0 hc1 hlk;have hrs:∀h:¬(c0<=300/\c1<=30),cB s t=none:=λh=>by
   unfold cB;rw[if_neg];rintro⟨-,-,h1⟩;have:=h1 v n x HVn.out (by rw[Hrep.out];exact Hx.out);rw[Hc0.out,Hc1.out]at this;exact h this
  have hz6:=Hbx5.out.size;have hlow6:Below w.heap.size w w6:=Hlow5.out.trans (Hbx5.out.mono (by omega));have Hlow6:=Lh hlow6;by_cases hbig:300<c0
  . have hno:=hrs (by omega);have hb1:(300:Int)<(c0:Int):=(by omega);have Hno:=Lh hno;clear hno hrs hlow6 hbig;go_wp2_with fail;rw[Hno.out];refine bodyPost_ret (v:=.tuple #[.map none,.bool false]) (by simp[results,Try.results68,go_sem]) rfl ⟨_,rfl,.inl ⟨rfl,λ_=>rfl⟩,Hlow6.out⟩
  have hb1:¬((300:Int)<(c0:Int)):=by omega
  by_cases hdeep:30<c1
  . have hno:=hrs (by omega);have hb2:(30:Int)<(c1:Int):=(by omega);have Hno:=Lh hno;clear hno hrs hlow6 hbig hdeep;go_wp2_with fail;rw[Hno.out];refine bodyPost_ret (v:=.tuple #[.map none,.bool false]) (by simp[results,Try.results68,go_sem]) rfl ⟨_,rfl,.inl ⟨rfl,λ_=>rfl⟩,Hlow6.out⟩
  have hb2:¬((30:Int)<(c1:Int)):=by omega
  have hsx:aK x<=300:=by have:=Hc0.out;unfold lM at this;omega
  have hok0:c0<=300/\c1<=30:=⟨by omega,by omega⟩;have hj6:=Hj5.out.low Hbx5.out;have Hj6:=Lh hj6;have Hok0:=Lh hok0;have hl5':Ps5.length=N:=by have h1:Ps5.length=Psl.length:=Hl5.out;rw[h1,Hll.out]
  clear hrs hlow6 hbig hdeep hj6 hok0;go_upto_region 20 with(
   go_at_call 91
   refine(yI w.heap.size (w.heap.size+3) (w.heap.size+2) (uS s t) rep d8 N (.slice (some ⟨gt,0,none⟩) N ct) va7 vp7 HO.out.ok HN.out (by omega) (aK x+1) (λb=>b=w8.heap.size\/b=wo.heap.size\/b=wo.heap.size+1) x n Ps5 _ (by omega) (by omega) Hx.out Hj6.out Hf5.out hl5' hnN).mono ?_;rintro e w7' ⟨⟨A7,n7,rfl,hrt7,Ps7,hj7,hg7,hf7,hl7⟩,hgk7⟩;have hz7:=hg7.upd.size;have hmk7:=(Hmk5.out.low Hbx5.out).upd hg7.upd (Hj6.out.hX _ (.inl rfl)).1;have hU7:=(HU5.out.low Hbx5.out).upd hg7.upd (λb hb _ e=>by have:=(Hjo.out b e).2;omega) (λg e=>by injection e with e;injection e with e;exact e ▸ (Hj6.out.hX _ (.inr (.inl rfl))).1);have hlow7:=Hlow6.out.trans (hg7.upd.toLow (by omega) (λk e=>(Hjo.out k e).1));have hrg7:=(Hrg5.out.low Hbx5.out).keep hgk7 (hg7.upd.block _ ((Hrg5.out.low Hbx5.out).lt) (Hj6.out.hX _ (.inr (.inr rfl))).1);have Hrt7:=Lh hrt7;have Hj7:=Lh hj7;have Hf7:=Lh hf7;have Hl7:=Lh hl7;have Hmk7:=Lh hmk7;have HU7:=Lh hU7;have Hlow7:=Lh hlow7;have Hrg7:=Lh hrg7;clear hrt7 hj7 hf7 hl7 hmk7 hU7 hlow7 hrg7 hg7 hgk7)
  obtain⟨xf,xa⟩:=x;simp only[Tm.fn,Tm.args]at Hrt7 ⊢;have hbx7:=aD w7' (.cells #[.int .i64 xf,.slice A7 xa.length n7] 87);have hbe7:aL w7'.heap.size 87 (.int .i64 xf) (.slice A7 xa.length n7) (w7'.alloc (.cells #[.int .i64 xf,.slice A7 xa.length n7] 87)):=heap_alloc_new w7' _;have hz8:(w7'.alloc (.cells #[.int .i64 xf,.slice A7 xa.length n7] 87)).heap.size=w7'.heap.size+1:=by simp
  generalize w7'.alloc (.cells #[.int .i64 xf,.slice A7 xa.length n7] 87)=w9' at hbx7 hbe7 hz8 ⊢;obtain⟨m0,m1,-⟩:=hbe7.cells;have htu:rQ s t n=.mk xf xa:=rR (by rw[Hrep.out];exact Hx.out);have hsb:nL s t v=if xf=v then none else some (.mk xf xa):=by
   unfold nL;rw[HVn.out];simp only[htu,Tm.fn]
  have hj9:=Hj7.out.low hbx7;have hf9:=Hf7.out;have hmk9:=Hmk7.out.low hbx7;have hU9:=HU7.out.low hbx7;have hlow9:=Hlow7.out.trans (hbx7.mono (by omega));have hrg9:=Hrg7.out.low hbx7;have hsl9:∀v' n' x',(done v'\/v'=v)->(uS s t).V v'=some n'->TreeR (uS s t).T (uS s t).As rep n' x'->lM x'<=300/\dF x'<=30:=λv' n' x' hd hV hx'=>by
   rcases hd with hd | rfl
   . exact Hsl.out v' n' x' hd hV hx'
   rw[HVn.out]at hV;obtain rfl:=Option.some.inj hV;rw[TreeR.det _ _ _ hx' Hx.out,Hc0.out,Hc1.out];exact Hok0.out
  have Hj9:=Lh hj9;have Hf9:=Lh hf9;have Hmk9:=Lh hmk9;have HU9:=Lh hU9;have Hlow9':=Lh hlow9;have Hrg9:=Lh hrg9;have Hsl9:=Lh hsl9;have Hsb:=Lh hsb;have Hbx7:=Lh hbx7;clear hj9 hf9 hmk9 hU9 hlow9 hrg9 hsl9 hsb htu hbx7 hbe7;by_cases hfv:xf=v
  . have hb3:(xf !=v)=false:=(by simp[hfv]);have hsn:nL s t v=none:=(by rw[Hsb.out,if_pos hfv]);have Hsn:=Lh hsn;clear hsn hfv;go_wp2_with fail;go_roundw
    case rel=>
     exact⟨_,cnt3,Ps7,Hrg9.out,by rw[<-aF4 Hsn.out];exact HU9.out,Hj9.out,Hf9.out,Hl7.out,Hmk9.out,Hlow9'.out,by omega,Hsl9.out⟩
    case measure=>rw[Hrg9.out.left,Hleft.out];exact hclt
  have hb3:(xf !=v)=true:=by simp[hfv]
  have hsn:nL s t v=some (.mk xf xa):=by rw[Hsb.out,if_neg hfv]
  have Hsn:=Lh hsn;obtain⟨vals,hmf,hvals⟩:=HU9.out.own;have Hmf:=Lh hmf;have Hvals:=Lh hvals;clear hsn hfv hmf hvals;go_wp2_with (
   at_mapUpdate
   refine cZ rfl (.tmp 78) (.tmp 79) (.tmp 80) rfl fT Try.underlying110 rfl v rfl (.agg #[.int .i64 xf,.slice A7 xa.length n7]) rfl (by exact Hmf.out) ?_;intro w10 hm10 hu10;have Hm10:=Lh hm10;have Hu10:=Lh hu10;clear hm10 hu10)
  simp only[Act.put];go_roundw
  case rel=>
   have hz10:=Hu10.out.size;have hr9:RdP w9' (λb=>w3.heap.size<=b) (.sl 2 (aH xa)) (.slice A7 xa.length n7):=(Hrt7.out.low Hbx7.out).more λb hb _=>by omega
   have hU10:=gB.stored (x:=v) (t:=.mk xf xa) (P:=λb=>w3.heap.size<=b) Hvals.out Hu10.out (λb hb=>by omega) hr9 (Hm10.out.congr λy=>rfl);rw[aF2 Hsn.out]at hU10;exact⟨_,cnt3,Ps7,Hrg9.out.upd Hu10.out (by omega) (by omega),hU10,Hj9.out.updX Hu10.out (λb e=>⟨by omega,.inl (.inr (.inl e))⟩) (λb e=>.inl e),Hf9.out,Hl7.out,Hmk9.out.upd Hu10.out (by omega),Hlow9'.out.trans (Hu10.out.toLow (by omega) (λk e=>by omega)),by omega,Hsl9.out⟩
  case measure=>rw[(Hrg9.out.upd Hu10.out (by omega) (by omega)).left,Hleft.out];exact hclt
end Go.Proofs.Ytiaoabfndnidiaa