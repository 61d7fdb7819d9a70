/-
  'syllogismlaw30.CheckSound' returns true for every input whose arguments together hold at most 1048576 values, and leaves what it was handed as it was.
-/
import Derived.Test.YtiaoabfndnidiaaML
import Derived.Test.YtiaoabfndnidiaaMA
import Derived.Test.YtiaoabfndnidiaaMM
import Derived.Test.YtiaoabfndnidiaaMK
set_option maxRecDepth 100000
set_option maxHeartbeats 8000000
set_option linter.unusedSimpArgs false
set_option linter.unusedVariables false
namespace Go.Proofs.Ytiaoabfndnidiaa
open Go.RowKit
def aO8 (sig:List Sy)(N:Nat)(tab:List (List Int))(j:Nat):Prop:=∀(h:j<sig.length) (h':j<tab.length),(0<=sig[j].ar/\sig[j].ar<=6)/\tab[j].length=N ^ sig[j].ar.toNat/\∀v∈tab[j],0<=v/\v<(if sig[j].pr=true then 2 else(N:Int))
def dA (sig:List Sy)(n:Int)(tab:List (List Int))(w:World)(e:Ending)(w':World):Prop:=
 ∃b:Bool,e=.returned (.bool b)/\Below w.heap.size w w'/\(b=true->∃N:Nat,n=(N:Int)/\N<=3/\RightW sig N tab)
theorem dA.no {sig:List Sy} {n:Int} {tab:List (List Int)} {w w':World} (h:Below w.heap.size w w'):dA sig n tab w (.returned (.bool false)) w':=⟨false,rfl,h,λe=>by cases e⟩
def aB0 (b:Nat)(t:TypeId)(x y z:Value)(w:World):Prop:=w.heap[b]? =some (.cells #[x,y,z] t (0,0))
theorem aB0.cells {b:Nat} {t:TypeId} {x y z:Value} {w:World} (h:aB0 b t x y z w):w.cell? ⟨b,0,none⟩=some x/\w.cell? ⟨b,1,none⟩=some y/\w.cell? ⟨b,2,none⟩=some z:=
 ⟨by rw[cell_of_row w b 0 _ _ _ h];rfl,by rw[cell_of_row w b 1 _ _ _ h];rfl,by rw[cell_of_row w b 2 _ _ _ h];rfl⟩
theorem aB0.low {b:Nat} {t:TypeId} {x y z:Value} {w w':World} (h:aB0 b t x y z w)(hb:Below w.heap.size w w'):aB0 b t x y z w':=(hb.block b (eA h)).trans h
theorem aE7 (sig:List Sy)(n:Int)(tab:List (List Int))(vs vt:Value)(B:Nat)(w:World)(hr:Rd w B (fX sig) vs)(hrt:Rd w B (iX tab) vt)(hB:B<=w.heap.size):
 Calls Try.prog 9 #[.agg #[vs],.agg #[.int .i64 n,vt]] w (dA sig n tab w):=by
 obtain⟨As,cs,rfl,hsc,hsn,hsm⟩:=Rd.row_form (show Rd w B (.sl 3 (sig.map fZ)) vs from hr);obtain⟨At,ct,rfl,htc,htn,htm⟩:=Rd.row_form (show Rd w B (.sl 1 (tab.map λr=>[bM r])) vt from hrt);have HS0:=Lh hr;have HT:=Lh hrt;clear hr hrt;by_cases h1:n<1
 . go_enter Try.func9,Try.ntmps9;go_upto_region 1 with fail
   obtain⟨hx1,hx2,hB2,hz2⟩:=aO w (.cells #[.slice As sig.length cs] 24) (.cells #[.int .i64 n,.slice At tab.length ct] 27);have hx1:aU w.heap.size 24 (.slice As sig.length cs) _:=hx1;have hx2:aL (w.heap.size+1) 27 (.int .i64 n) (.slice At tab.length ct) _:=hx2;generalize (w.alloc (.cells #[.slice As sig.length cs] 24)).alloc (.cells #[.int .i64 n,.slice At tab.length ct] 27)=w1 at hx1 hx2 hB2 hz2 ⊢;have HX1:=Lh hx1;have HX2:=Lh hx2;have HB2:=Lh hB2;have x10:=hx1.cell;obtain⟨x20,x21,-⟩:=hx2.cells;clear hx1 hx2 hB2;go_wp2_with fail;go_ret;exact dA.no HB2.out
 by_cases h2:3<n
 . go_enter Try.func9,Try.ntmps9;go_upto_region 1 with fail
   obtain⟨hx1,hx2,hB2,hz2⟩:=aO w (.cells #[.slice As sig.length cs] 24) (.cells #[.int .i64 n,.slice At tab.length ct] 27);have hx1:aU w.heap.size 24 (.slice As sig.length cs) _:=hx1;have hx2:aL (w.heap.size+1) 27 (.int .i64 n) (.slice At tab.length ct) _:=hx2;generalize (w.alloc (.cells #[.slice As sig.length cs] 24)).alloc (.cells #[.int .i64 n,.slice At tab.length ct] 27)=w1 at hx1 hx2 hB2 hz2 ⊢;have HX1:=Lh hx1;have HX2:=Lh hx2;have HB2:=Lh hB2;have x10:=hx1.cell;obtain⟨x20,x21,-⟩:=hx2.cells;clear hx1 hx2 hB2;go_wp2_with fail;go_ret;exact dA.no HB2.out
 by_cases h3:tab.length=sig.length
 . obtain⟨N,rfl⟩:∃N:Nat,n=(N:Int):=⟨n.toNat,by omega⟩;have hls:=Lh h3;clear h3;go_enter Try.func9,Try.ntmps9;go_upto_region 1 with fail
   obtain⟨hx1,hx2,hB2,hz2⟩:=aO w (.cells #[.slice As sig.length cs] 24) (.cells #[.int .i64 (N:Nat),.slice At tab.length ct] 27);have hx1:aU w.heap.size 24 (.slice As sig.length cs) _:=hx1;have hx2:aL (w.heap.size+1) 27 (.int .i64 (N:Nat)) (.slice At tab.length ct) _:=hx2;generalize (w.alloc (.cells #[.slice As sig.length cs] 24)).alloc (.cells #[.int .i64 (N:Nat),.slice At tab.length ct] 27)=w1 at hx1 hx2 hB2 hz2 ⊢;have HX1:=Lh hx1;have HX2:=Lh hx2;have HB2:=Lh hB2;have x10:=hx1.cell;obtain⟨x20,x21,-⟩:=hx2.cells;clear hx1 hx2 hB2;have h4:(tab.length:Int)=(sig.length:Int):=by have:=hls.out;omega
   go_upto_region 3 with fail
   clear h4;go_wp2_with fail;go_loopw [5] (λi wr=>∃k:Nat,k<=sig.length/\i=.int .i64 k/\(∀j,j<k->aO8 sig N tab j)/\Below w1.heap.size w1 wr) (λi _=>sig.length-(intOf i).toNat)
   case atStart=>exact⟨0,Nat.zero_le _,rfl,λj h=>by omega,Below.refl _ _⟩
   obtain⟨k,hk,rfl,hall,hbel⟩:=hrel;have hzr:=hbel.size;have Hall:=Lh hall;have hbr:Below w.heap.size w wr:=HB2.out.trans (hbel.mono (by omega));have Hbr:=Lh hbr;have x10:=(HX1.out.low hbel).cell;obtain⟨x20,x21,-⟩:=(HX2.out.low hbel).cells;have Hbel:=Lh hbel;clear hall hbel hbr;by_cases hlt:k<sig.length
   . obtain⟨sb',sbo,rfl,hsb,s0,s1,s2⟩:=(HS0.out.low Hbr.out hB).sy_at hlt;have hlt2:k<tab.length:=(by have:=hls.out;omega);obtain⟨tb,tbo,R2,r2,rfl,htb,t0,hrr⟩:=(HT.out.low Hbr.out hB).tab_at hlt2;obtain⟨nm,hnm⟩:∃x,sig[k].name=x:=⟨_,rfl⟩;obtain⟨ar,har⟩:∃x,sig[k].ar=x:=⟨_,rfl⟩;obtain⟨pr,hpr⟩:∃x,sig[k].pr=x:=⟨_,rfl⟩;obtain⟨row,hrow⟩:∃x,tab[k]=x:=⟨_,rfl⟩;rw[hnm]at s0;rw[har]at s1;rw[hpr]at s2;rw[hrow]at t0 hrr;have T0:=Lh t0;have HRR:=Lh hrr;have hrn:row.length<=140737488351232:=by
      obtain⟨_,_,_,_,h,_⟩:=Rd.row_form (show Rd wr B (.sl 1 (row.map λn=>[.leaf (.int .i64 n)])) _ from by rw[<-hrow];exact hrow ▸ hrr);exact h
     have Hars:=Lh (show sig[k].ar=ar/\sig[k].pr=pr/\tab[k]=row from⟨har,hpr,hrow⟩);have Hlt0:=Lh (show ∀_:World,k<sig.length from λ_=>hlt);clear t0 hrr hnm har hpr hrow;go_upto_region 7 with fail
     have hb3:=aD wr (.cells #[.string nm,.int .i64 ar,.bool pr] 60);have hx3:aB0 wr.heap.size 60 (.string nm) (.int .i64 ar) (.bool pr) (wr.alloc (.cells #[.string nm,.int .i64 ar,.bool pr] 60)):=heap_alloc_new wr _;have hz3:(wr.alloc (.cells #[.string nm,.int .i64 ar,.bool pr] 60)).heap.size=wr.heap.size+1:=(by simp);generalize wr.alloc (.cells #[.string nm,.int .i64 ar,.bool pr] 60)=w3 at hb3 hx3 hz3 ⊢;obtain⟨gb,hgb⟩:∃g,wr.heap.size=g:=⟨_,rfl⟩;have HXS:=Lh hx3;have Hb3w:=Lh hb3;have Hb3:=Lh (Hbr.out.trans (hb3.mono (by omega)));have HXW:=Lh ((HX2.out.low Hbel.out).low hb3);have t1:=(hb3.cell (p:=⟨tb,tbo+k,none⟩) (show tb<wr.heap.size by omega)).trans T0.out;have hzw:=Hbr.out.size;clear T0;have T0:=Lh t1;have hkt:k<tab.length:=hlt2;have htt:¬((tab.length:Int)<=(k:Int)):=(by omega);clear hb3 hx3 t1 s0 s1 s2 x10 x20 x21;rw[hgb]at HXS ⊢;by_cases c1:ar<0
     . have a2:=c1;have a6:=c1;have a20:=c1;have Hcl:=Hlt0;refine rg 22 (λ_ w'=>Below w3.heap.size w3 w') ?_;intro wd hwd hbd;refine⟨?_,λhS=>?_⟩
       . exact hwd ▸ hbd
       refine ta 0 (.pointer (some ⟨gb,1,none⟩)) hS λhS=>?_
       refine tk 1 (.int .i64 ar) hS ?_ λhS=>?_
       . intro w' L hn hw;have o1:=(HXS.out.low hw).cells;simp[execOp,go_sem,o1.2.1]
       refine tk 2 (.bool true) hS ?_ λhS=>?_
       . intros;simp[execOp,go_sem,a2]
       refine ta 3 (.bool true) hS λhS=>?_
       refine sk 4 hS λhS=>?_
       refine sk 5 hS λhS=>?_
       refine sk 6 hS λhS=>?_
       refine ta 7 (.bool true) hS λhS=>?_
       refine ta 8 (.bool true) hS λhS=>?_
       refine sk 9 hS λhS=>?_
       refine sk 10 hS λhS=>?_
       refine sk 11 hS λhS=>?_
       refine sk 12 hS λhS=>?_
       refine sk 13 hS λhS=>?_
       refine sk 14 hS λhS=>?_
       refine sk 15 hS λhS=>?_
       refine sk 16 hS λhS=>?_
       refine sk 17 hS λhS=>?_
       refine sk 18 hS λhS=>?_
       refine sk 19 hS λhS=>?_
       refine sk 20 hS λhS=>?_
       refine ta 21 (.bool true) hS λhS=>?_
       refine dn ?_;have HS:=Lh hS;have hbz:=hS.size;clear hS hwd hbd;go_wp2_with fail;go_ret;exact dA.no (Hb3.out.trans (HS.out.mono (by omega)))
     by_cases c2:6<ar
     . have a2:=c1;have a6:=c2;have a20:=c1;have Hcl:=Hlt0;refine rg 22 (λ_ w'=>Below w3.heap.size w3 w') ?_;intro wd hwd hbd;refine⟨?_,λhS=>?_⟩
       . exact hwd ▸ hbd
       refine ta 0 (.pointer (some ⟨gb,1,none⟩)) hS λhS=>?_
       refine tk 1 (.int .i64 ar) hS ?_ λhS=>?_
       . intro w' L hn hw;have o1:=(HXS.out.low hw).cells;simp[execOp,go_sem,o1.2.1]
       refine tk 2 (.bool false) hS ?_ λhS=>?_
       . intros;simp[execOp,go_sem,a2]
       refine ta 3 (.bool false) hS λhS=>?_
       refine ta 4 (.pointer (some ⟨gb,1,none⟩)) hS λhS=>?_
       refine tk 5 (.int .i64 ar) hS ?_ λhS=>?_
       . intro w' L hn hw;have o1:=(HXS.out.low hw).cells;simp[execOp,go_sem,o1.2.1]
       refine tk 6 (.bool true) hS ?_ λhS=>?_
       . intros;simp[execOp,go_sem,a6]
       refine ta 7 (.bool true) hS λhS=>?_
       refine ta 8 (.bool true) hS λhS=>?_
       refine sk 9 hS λhS=>?_
       refine sk 10 hS λhS=>?_
       refine sk 11 hS λhS=>?_
       refine sk 12 hS λhS=>?_
       refine sk 13 hS λhS=>?_
       refine sk 14 hS λhS=>?_
       refine sk 15 hS λhS=>?_
       refine sk 16 hS λhS=>?_
       refine sk 17 hS λhS=>?_
       refine sk 18 hS λhS=>?_
       refine sk 19 hS λhS=>?_
       refine sk 20 hS λhS=>?_
       refine ta 21 (.bool true) hS λhS=>?_
       refine dn ?_;have HS:=Lh hS;have hbz:=hS.size;clear hS hwd hbd;go_wp2_with fail;go_ret;exact dA.no (Hb3.out.trans (HS.out.mono (by omega)))
     obtain⟨an,rfl⟩:∃a:Nat,ar=(a:Int):=⟨ar.toNat,by omega⟩;have a2:=c1;have a6:=c2;have hcl:=(λw'=>tO N an w' (λj hj=>Nat.le_trans (Nat.pow_le_pow_left (show N<=10 by omega) j) (Nat.le_trans (Nat.pow_le_pow_right (by omega) (show j<=8 by omega)) (by decide))) (by omega) (by omega));obtain⟨pwn,hpw⟩:∃p:Nat,N ^ an=p:=⟨_,rfl⟩;rw[hpw]at hcl;have Hcl:=Lh hcl;have Hpw:=Lh hpw;clear hcl hpw;by_cases c3:row.length=pwn
     . have a20:(row.length:Int)=(pwn:Int):=(by omega);refine rg 22 (λ_ w'=>Below w3.heap.size w3 w') ?_;intro wd hwd hbd;refine⟨?_,λhS=>?_⟩
       . exact hwd ▸ hbd
       refine ta 0 (.pointer (some ⟨gb,1,none⟩)) hS λhS=>?_
       refine tk 1 (.int .i64 (an:Nat)) hS ?_ λhS=>?_
       . intro w' L hn hw;have o1:=(HXS.out.low hw).cells;simp[execOp,go_sem,o1.2.1]
       refine tk 2 (.bool false) hS ?_ λhS=>?_
       . intros;simp[execOp,go_sem,a2]
       refine ta 3 (.bool false) hS λhS=>?_
       refine ta 4 (.pointer (some ⟨gb,1,none⟩)) hS λhS=>?_
       refine tk 5 (.int .i64 (an:Nat)) hS ?_ λhS=>?_
       . intro w' L hn hw;have o1:=(HXS.out.low hw).cells;simp[execOp,go_sem,o1.2.1]
       refine tk 6 (.bool false) hS ?_ λhS=>?_
       . intros;simp[execOp,go_sem,a6]
       refine ta 7 (.bool false) hS λhS=>?_
       refine ta 8 (.bool false) hS λhS=>?_
       refine ta 9 (.pointer (some ⟨w.heap.size+1,1,none⟩)) hS λhS=>?_
       refine tk 10 (.slice (some ⟨tb,tbo,none⟩) tab.length ct) hS ?_ λhS=>?_
       . intro w' L hn hw;have o2:=(HXW.out.low hw).cells;simp[execOp,go_sem,o2.2.1]
       refine ta 11 (.int .i64 (k:Nat)) hS λhS=>?_
       refine tk 12 (.pointer (some ⟨tb,tbo+k,none⟩)) hS ?_ λhS=>?_
       . intros;simp[execOp,go_sem,hkt,htt]
       refine tk 13 (.slice R2 row.length r2) hS ?_ λhS=>?_
       . intro w' L hn hw;have o3:=(hw.cell (p:=⟨tb,tbo+k,none⟩) (show tb<w3.heap.size by omega)).trans T0.out;simp[execOp,go_sem,o3]
       refine ta 14 (.int .i64 (row.length:Nat)) hS λhS=>?_
       refine ta 15 (.pointer (some ⟨w.heap.size+1,0,none⟩)) hS λhS=>?_
       refine tk 16 (.int .i64 (N:Nat)) hS ?_ λhS=>?_
       . intro w' L hn hw;have o2:=(HXW.out.low hw).cells;simp[execOp,go_sem,o2.1]
       refine ta 17 (.pointer (some ⟨gb,1,none⟩)) hS λhS=>?_
       refine tk 18 (.int .i64 (an:Nat)) hS ?_ λhS=>?_
       . intro w' L hn hw;have o1:=(HXS.out.low hw).cells;simp[execOp,go_sem,o1.2.1]
       refine so 19 ?_;have hbd4:Below w3.heap.size w3 wd:=hwd ▸ hbd;refine aG ?_ (Hcl.out wd) ?_
       . simp[execOp,resolve,invoke,go_sem]
       rintro e w6 ⟨rfl,hb6⟩;refine⟨_,rfl,?_⟩;refine gS ?_ λhS=>?_
       . exact hS.trans (hb6.mono hS.size)
       refine tk 20 (.bool false) hS ?_ λhS=>?_
       . intros;simp[execOp,go_sem,a20]
       refine ta 21 (.bool false) hS λhS=>?_
       refine dn ?_;have HS:=Lh hS;have hbz:=hS.size;clear hS hwd hbd;have C3:=Lh c3;clear c3 a20;have x20:=((HXW.out.low HS.out).cells).1;have x21:=((HXW.out.low HS.out).cells).2.1;have y2:=((HXS.out.low HS.out).cells).2.2;cases pr with
       | true=>
        go_wp2_with fail;obtain⟨wo,hwo⟩:∃wo:World,wo=w6:=⟨_,rfl⟩;have H60:=Lh (show Below wo.heap.size wo w6 from by rw[hwo];exact Below.refl _ _);have Hw6:=Lh hwo;clear hwo;go_loopw [8] (λi wr=>∃j:Nat,j<=row.length/\i=.int .i64 j/\(∀l (h:l<row.length),l<j->0<=row[l]/\row[l]<(2:Int))/\Below wo.heap.size wo wr) (λi _=>row.length-(intOf i).toNat)
        case atStart=>exact⟨0,Nat.zero_le _,rfl,λl _ h=>by omega,H60.out⟩
        obtain⟨j,hj,rfl,hal,hbe⟩:=hrel;rw[Hw6.out]at hbe;have hzj:=hbe.size;have hall2:=HS.out.trans (hbe.mono hbz);have Hal2:=Lh hall2;have Hal:=Lh hal;have Hbe:=Lh hbe;have x20:=((HXW.out.low hall2).cells).1;have x21:=((HXW.out.low hall2).cells).2.1;have t0:=(hall2.cell (p:=⟨tb,tbo+k,none⟩) (show tb<w3.heap.size by omega)).trans T0.out;have Hw3r:=Lh (Hb3.out.trans (hall2.mono (by omega)));clear hal hbe hall2;by_cases hjl:j<row.length
        . obtain⟨rb,ro,rfl,hrb,v0⟩:=Rd.leaf_at (f:=λn=>.int .i64 n) (show Rd _ B (.sl 1 (row.map λn=>[.leaf (.int .i64 n)])) _ from HRR.out.low (Hb3w.out.trans (Hal2.out.mono (by omega))) (by omega)) hjl;obtain⟨v,hv⟩:∃v,row[j]=v:=⟨_,rfl⟩;rw[hv]at v0;have Hv:=Lh hv;have hjj:¬((row.length:Int)<=(j:Int)):=(by omega);clear hv;by_cases v1:v<0
          . go_wp2_with fail;go_ret;exact dA.no Hw3r.out
          by_cases v2:(2:Int)<=v
          . go_wp2_with fail;go_ret;exact dA.no Hw3r.out
          go_wp2_with fail;go_roundw
          case rel=>
           refine⟨j+1,by omega,by go_num,λl hl hlj=>?_,by rw[Hw6.out];exact Hbe.out⟩;by_cases e:l=j
           . subst e;rw[Hv.out];omega
           exact Hal.out l hl (by omega)
          case measure=>simp[intOf];omega
        go_wp2_with fail;go_roundw
        case rel=>
         refine⟨k+1,by omega,by go_num,λl hl=>?_,Hbel.out.trans ((Hb3w.out.trans (Hal2.out.mono (by omega))).mono hzr)⟩;by_cases e:l=k
         . subst e;intro g1 g2;rw[Hars.out.1,Hars.out.2.1,Hars.out.2.2];refine⟨⟨by omega,by omega⟩,by rw[C3.out,<-Hpw.out];rfl,λx hx=>?_⟩;obtain⟨m,hm,rfl⟩:=List.mem_iff_getElem.1 hx;exact Hal.out m hm (by omega)
         exact Hall.out l (by omega)
        case measure=>simp[intOf];omega
       | false=>
        go_wp2_with fail;obtain⟨wo,hwo⟩:∃wo:World,wo=w6:=⟨_,rfl⟩;have H60:=Lh (show Below wo.heap.size wo w6 from by rw[hwo];exact Below.refl _ _);have Hw6:=Lh hwo;clear hwo;go_loopw [8] (λi wr=>∃j:Nat,j<=row.length/\i=.int .i64 j/\(∀l (h:l<row.length),l<j->0<=row[l]/\row[l]<(N:Int))/\Below wo.heap.size wo wr) (λi _=>row.length-(intOf i).toNat)
        case atStart=>exact⟨0,Nat.zero_le _,rfl,λl _ h=>by omega,H60.out⟩
        obtain⟨j,hj,rfl,hal,hbe⟩:=hrel;rw[Hw6.out]at hbe;have hzj:=hbe.size;have hall2:=HS.out.trans (hbe.mono hbz);have Hal2:=Lh hall2;have Hal:=Lh hal;have Hbe:=Lh hbe;have x20:=((HXW.out.low hall2).cells).1;have x21:=((HXW.out.low hall2).cells).2.1;have t0:=(hall2.cell (p:=⟨tb,tbo+k,none⟩) (show tb<w3.heap.size by omega)).trans T0.out;have Hw3r:=Lh (Hb3.out.trans (hall2.mono (by omega)));clear hal hbe hall2;by_cases hjl:j<row.length
        . obtain⟨rb,ro,rfl,hrb,v0⟩:=Rd.leaf_at (f:=λn=>.int .i64 n) (show Rd _ B (.sl 1 (row.map λn=>[.leaf (.int .i64 n)])) _ from HRR.out.low (Hb3w.out.trans (Hal2.out.mono (by omega))) (by omega)) hjl;obtain⟨v,hv⟩:∃v,row[j]=v:=⟨_,rfl⟩;rw[hv]at v0;have Hv:=Lh hv;have hjj:¬((row.length:Int)<=(j:Int)):=(by omega);clear hv;by_cases v1:v<0
          . go_wp2_with fail;go_ret;exact dA.no Hw3r.out
          by_cases v2:(N:Int)<=v
          . go_wp2_with fail;go_ret;exact dA.no Hw3r.out
          go_wp2_with fail;go_roundw
          case rel=>
           refine⟨j+1,by omega,by go_num,λl hl hlj=>?_,by rw[Hw6.out];exact Hbe.out⟩;by_cases e:l=j
           . subst e;rw[Hv.out];omega
           exact Hal.out l hl (by omega)
          case measure=>simp[intOf];omega
        go_wp2_with fail;go_roundw
        case rel=>
         refine⟨k+1,by omega,by go_num,λl hl=>?_,Hbel.out.trans ((Hb3w.out.trans (Hal2.out.mono (by omega))).mono hzr)⟩;by_cases e:l=k
         . subst e;intro g1 g2;rw[Hars.out.1,Hars.out.2.1,Hars.out.2.2];refine⟨⟨by omega,by omega⟩,by rw[C3.out,<-Hpw.out];rfl,λx hx=>?_⟩;obtain⟨m,hm,rfl⟩:=List.mem_iff_getElem.1 hx;exact Hal.out m hm (by omega)
         exact Hall.out l (by omega)
        case measure=>simp[intOf];omega
     have a20:¬(row.length:Int)=(pwn:Int):=(by omega);refine rg 22 (λ_ w'=>Below w3.heap.size w3 w') ?_;intro wd hwd hbd;refine⟨?_,λhS=>?_⟩
     . exact hwd ▸ hbd
     refine ta 0 (.pointer (some ⟨gb,1,none⟩)) hS λhS=>?_
     refine tk 1 (.int .i64 (an:Nat)) hS ?_ λhS=>?_
     . intro w' L hn hw;have o1:=(HXS.out.low hw).cells;simp[execOp,go_sem,o1.2.1]
     refine tk 2 (.bool false) hS ?_ λhS=>?_
     . intros;simp[execOp,go_sem,a2]
     refine ta 3 (.bool false) hS λhS=>?_
     refine ta 4 (.pointer (some ⟨gb,1,none⟩)) hS λhS=>?_
     refine tk 5 (.int .i64 (an:Nat)) hS ?_ λhS=>?_
     . intro w' L hn hw;have o1:=(HXS.out.low hw).cells;simp[execOp,go_sem,o1.2.1]
     refine tk 6 (.bool false) hS ?_ λhS=>?_
     . intros;simp[execOp,go_sem,a6]
     refine ta 7 (.bool false) hS λhS=>?_
     refine ta 8 (.bool false) hS λhS=>?_
     refine ta 9 (.pointer (some ⟨w.heap.size+1,1,none⟩)) hS λhS=>?_
     refine tk 10 (.slice (some ⟨tb,tbo,none⟩) tab.length ct) hS ?_ λhS=>?_
     . intro w' L hn hw;have o2:=(HXW.out.low hw).cells;simp[execOp,go_sem,o2.2.1]
     refine ta 11 (.int .i64 (k:Nat)) hS λhS=>?_
     refine tk 12 (.pointer (some ⟨tb,tbo+k,none⟩)) hS ?_ λhS=>?_
     . intros;simp[execOp,go_sem,hkt,htt]
     refine tk 13 (.slice R2 row.length r2) hS ?_ λhS=>?_
     . intro w' L hn hw;have o3:=(hw.cell (p:=⟨tb,tbo+k,none⟩) (show tb<w3.heap.size by omega)).trans T0.out;simp[execOp,go_sem,o3]
     refine ta 14 (.int .i64 (row.length:Nat)) hS λhS=>?_
     refine ta 15 (.pointer (some ⟨w.heap.size+1,0,none⟩)) hS λhS=>?_
     refine tk 16 (.int .i64 (N:Nat)) hS ?_ λhS=>?_
     . intro w' L hn hw;have o2:=(HXW.out.low hw).cells;simp[execOp,go_sem,o2.1]
     refine ta 17 (.pointer (some ⟨gb,1,none⟩)) hS λhS=>?_
     refine tk 18 (.int .i64 (an:Nat)) hS ?_ λhS=>?_
     . intro w' L hn hw;have o1:=(HXS.out.low hw).cells;simp[execOp,go_sem,o1.2.1]
     refine so 19 ?_;have hbd4:Below w3.heap.size w3 wd:=hwd ▸ hbd;refine aG ?_ (Hcl.out wd) ?_
     . simp[execOp,resolve,invoke,go_sem]
     rintro e w6 ⟨rfl,hb6⟩;refine⟨_,rfl,?_⟩;refine gS ?_ λhS=>?_
     . exact hS.trans (hb6.mono hS.size)
     refine tk 20 (.bool true) hS ?_ λhS=>?_
     . intros;simp[execOp,go_sem,a20]
     refine ta 21 (.bool true) hS λhS=>?_
     refine dn ?_;have HS:=Lh hS;have hbz:=hS.size;clear hS hwd hbd;go_wp2_with fail;go_ret;exact dA.no (Hb3.out.trans (HS.out.mono (by omega)))
   have hW:RightW sig N tab:=⟨by omega,by omega,hls.out,λj hj=>(Hall.out j (by omega) hj (by have:=hls.out;omega)).1,λj hj h'=>(Hall.out j (by omega) hj h').2.1,λj hj h'=>(Hall.out j (by omega) hj h').2.2⟩;have HW:=Lh hW;by_cases hs0:0<sig.length
   . have hs0':(0:Int)<(sig.length:Int):=(by omega);have hs1:0<tab.length:=(by have:=hls.out;omega);obtain⟨tb,tbo,R2,r2,rfl,htb,t0,hrr⟩:=(HT.out.low Hbr.out hB).tab_at hs1;have hrl:=hW.row 0 hs0 hs1;have hrp:0<tab[0].length:=(by rw[hrl];exact Nat.pow_pos (by omega));obtain⟨rb,ro,rfl,hrb,v0⟩:=Rd.leaf_at (f:=λn=>.int .i64 n) (show Rd wr B (.sl 1 (tab[0].map λn=>[.leaf (.int .i64 n)])) _ from hrr) hrp;obtain⟨v,hv⟩:∃v,tab[0][0]=v:=⟨_,rfl⟩;obtain⟨row,hrow⟩:∃r,tab[0]=r:=⟨_,rfl⟩;rw[hv]at v0;rw[hrow]at t0 hrp;simp only[Nat.zero_mul,Nat.add_zero]at t0 v0;have hr0:(0:Int)<(row.length:Int):=(by omega);have ht0:(0:Int)<(tab.length:Int):=(by omega);have hr1:¬((row.length:Int)<=0):=(by omega);have ht1:¬((tab.length:Int)<=0):=(by omega);clear hrr hrl hv hrow hW;go_wp2_with fail;go_ret;exact⟨_,rfl,Hbr.out,λ_=>⟨N,rfl,by omega,HW.out⟩⟩
   have hs0':¬(0:Int)<(sig.length:Int):=by omega
   clear hW;go_wp2_with fail;go_ret;exact dA.no Hbr.out
 have h3':¬(tab.length:Int)=(sig.length:Int):=by omega
 go_enter Try.func9,Try.ntmps9;go_upto_region 1 with fail
 obtain⟨hx1,hx2,hB2,hz2⟩:=aO w (.cells #[.slice As sig.length cs] 24) (.cells #[.int .i64 n,.slice At tab.length ct] 27);have hx1:aU w.heap.size 24 (.slice As sig.length cs) _:=hx1;have hx2:aL (w.heap.size+1) 27 (.int .i64 n) (.slice At tab.length ct) _:=hx2;generalize (w.alloc (.cells #[.slice As sig.length cs] 24)).alloc (.cells #[.int .i64 n,.slice At tab.length ct] 27)=w1 at hx1 hx2 hB2 hz2 ⊢;have HX1:=Lh hx1;have HX2:=Lh hx2;have HB2:=Lh hB2;have x10:=hx1.cell;obtain⟨x20,x21,-⟩:=hx2.cells;clear hx1 hx2 hB2;go_wp2_with fail;go_ret;exact dA.no HB2.out
theorem zY {size:Nat}:∀{L:List (List Value)} {k j:Nat},(∀r∈L,r.length=size)->(h:k<L.length)->(h':j<L[k].length)->L.flatten[k*size+j]? =some L[k][j]
 | [],k,j,_,h,_=>by simp at h
 | r::L,0,j,hl,h,h'=>by
  simp only[List.getElem_cons_zero]at h';simp only[Nat.zero_mul,Nat.zero_add,List.flatten_cons,List.getElem_cons_zero];rw[List.getElem?_append_left h',List.getElem?_eq_getElem h']
 | r::L,k+1,j,hl,h,h'=>by
  simp only[List.getElem_cons_succ]at h' ⊢;have hr:r.length=size:=hl r (List.mem_cons_self ..);rw[List.flatten_cons,List.getElem?_append_right (by rw[hr,Nat.succ_mul];omega),hr,show (k+1)*size+j-size=k*size+j by rw[Nat.succ_mul];omega];exact zY (λr hr=>hl r (List.mem_cons_of_mem _ hr)) (by simpa using h) h'
def aO9 (w:World)(B:Nat)(r:List Tr)(vs:List Value):Prop:=∀j (h:j<r.length) (h':j<vs.length),Rd w B r[j] vs[j]
theorem fR {w:World} {b size n:Nat} {cs:Array Value} {t:TypeId} {fr:Nat × Nat} {rows:List (List Tr)} {L:List (List Value)} (hb:w.heap[b]? =some (.cells cs t fr))(hB:b<w.heap.size)(hcs:cs=L.flatten.toArray)(hn:rows.length=n)(hL:L.length=n)
 (hl:∀r∈rows,r.length=size) (hl2:∀r∈L,r.length=size) (hr:∀p∈rows.zip L,aO9 w w.heap.size p.1 p.2) (hm:n<=1000000):Rd w w.heap.size (.sl size rows) (.slice (some ⟨b,0,none⟩) n n):=by
 subst hn;refine aI8 (us:=λk j=>((L[k]?.getD [])[j]?).getD undef) hb hB hl hm (λk j hk hj=>?_) (λk hk j hj=>?_)
 . have hk':k<L.length:=by omega
   have hj':j<L[k].length:=by rw[hl2 _ (List.getElem_mem _)];exact hj
   rw[hcs,List.getElem?_toArray,zY hl2 hk' hj',List.getElem?_eq_getElem hk'];simp[hj']
 have hk':k<L.length:=by omega
 have hj':j<L[k].length:=by rw[hl2 _ (List.getElem_mem _),<-hl _ (List.getElem_mem hk)];exact hj
 have:=hr (rows[k],L[k]) (by
  have:=List.getElem_mem (l:=rows.zip L) (n:=k) (by simp;omega);simpa using this) j hj hj'
 simpa [hk',hj']using this
def iE:Cl:=[⟨false,.mk 1 [.mk 2 []],.mk 0 []⟩]
def oD:Cl:=[⟨true,.mk 1 [.mk (-1) []],.mk 0 []⟩]
def gV:List Cl:=[iE,oD]
def wk1:Sp:=⟨1,[],[0],[],[],iE⟩
def wk2:Sp:=⟨1,[],[1],[],[],oD⟩
def wk3 (c:Cl):Sp:=⟨8,[1,0],[0],[],[],c⟩
theorem aK0 (c:Cl):cF gV [wk1,wk2,wk3 c] (wk3 c)=some []:=by
 have h1:cF gV [wk1,wk2,wk3 c] (wk3 c)=qL (wk3 c) [oD,iE]:=rfl;have h2:qL (wk3 c) [oD,iE]=mU (wk3 c) [oD,iE]:=by
  have r8:(wk3 c).rule=8:=rfl;unfold qL;rw[if_neg (show ¬(([oD,iE]:List Cl).any λc=> !eK c)=true by decide+kernel),r8,if_neg (by decide),if_neg (by decide),if_pos rfl]
 rw[h1,h2];show iK (wk3 c) oD iE=some []
 have h3:aB9 oD iE 0=true:=by decide+kernel
 have n1:aY (wk3 c) 2 1 0 false=true:=rfl;have l0:(wk3 c).lits.headD 0=0:=rfl;unfold iK;rw[l0,if_neg (by rw[n1];decide),if_neg (by decide)];show (if aB9 oD iE 0=true then _ else _)=_
 rw[if_pos h3];rfl
theorem xY {s:Sp} (l:List Sp) {i:Int} {c:Cl} (hs:s.rule=1)(hn:aY s 0 1 0 false=true)(hi:kA s 0=i)(h0:0<=i)(h1:i<(gV.length:Int))(hl:gV[li s 0]? =some c):cF gV l s=some c:=by
 unfold cF;rw[if_pos hs,if_neg,hl];rintro(h | h | h)
 . rw[hn]at h;cases h
 . omega
 omega
theorem jN {l:List Sp} {n:Nat} {s:Sp} (hl:l[n]? =some s)(hf:eK s.clause=true)(hp:(s.parents.any λk=>decide (k<0) || decide ((n:Int)<=k))=false) {c:Cl} (hm:cF gV l s=some c):dO gV l n=dW c s.clause:=by
 have hn:n<l.length:=(List.getElem?_eq_some_iff.1 hl).1;unfold dO;rw[Int.toNat_natCast,hl];simp only[hf,hp,hm];rw[decide_eq_true (show (0:Int)<=(n:Int) by omega),decide_eq_true (show (n:Int)<(l.length:Int) by omega)];simp
theorem aO2 {a e:Int} (h:zR gV [wk1,wk2,wk3 []] a e):a=0/\e=0:=by
 have h0:dO gV [wk1,wk2,wk3 []] (0:Nat)=true:=(jN rfl (by decide+kernel) rfl (xY _ rfl rfl rfl (by decide) (by decide) rfl)).trans (by decide+kernel);have h1:dO gV [wk1,wk2,wk3 []] (1:Nat)=true:=(jN rfl (by decide+kernel) rfl (xY _ rfl rfl rfl (by decide) (by decide) rfl)).trans (by decide+kernel);have h2:dO gV [wk1,wk2,wk3 []] (2:Nat)=true:=(jN rfl (by decide+kernel) rfl (aK0 [])).trans (by decide+kernel);rcases h with⟨k,hk,-,hb,-⟩ | ⟨-,ha,he⟩
 . have hk:k<3:=hk;rcases(by omega:k=0\/k=1\/k=2)with rfl | rfl | rfl
   . rw[h0]at hb;cases hb
   . rw[h1]at hb;cases hb
   rw[h2]at hb;cases hb
 exact⟨ha,he.trans rfl⟩
theorem aO3 {a e:Int} (h:zR gV [wk1] a e):e=401:=by
 have h0:dO gV [wk1] (0:Nat)=true:=(jN rfl (by decide+kernel) rfl (xY _ rfl rfl rfl (by decide) (by decide) rfl)).trans (by decide+kernel);rcases h with⟨k,hk,-,hb,-⟩ | ⟨-,ha,he⟩
 . have hk:k<1:=hk;obtain rfl:k=0:=by omega
   rw[h0]at hb;cases hb
 exact he.trans rfl
theorem aO4 {a e:Int} (h:zR gV [wk1,wk2,wk3 iE] a e):a=2/\e=400:=by
 have h0:dO gV [wk1,wk2,wk3 iE] (0:Nat)=true:=(jN rfl (by decide+kernel) rfl (xY _ rfl rfl rfl (by decide) (by decide) rfl)).trans (by decide+kernel);have h1:dO gV [wk1,wk2,wk3 iE] (1:Nat)=true:=(jN rfl (by decide+kernel) rfl (xY _ rfl rfl rfl (by decide) (by decide) rfl)).trans (by decide+kernel);have h2:dO gV [wk1,wk2,wk3 iE] (2:Nat)=false:=(jN rfl (by decide+kernel) rfl (aK0 iE)).trans (by decide+kernel);rcases h with⟨k,hk,-,hb,ha,he⟩ | ⟨hall,-,-⟩
 . have hk:k<3:=hk;rcases(by omega:k=0\/k=1\/k=2)with rfl | rfl | rfl
   . rw[h0]at hb;cases hb
   . rw[h1]at hb;cases hb
   exact⟨ha,he⟩
 have:=hall 2 (by decide);rw[h2]at this;cases this
theorem pQ:∀(os:List Obj) (w:World),Below w.heap.size w (os.foldl World.alloc w)/\(os.foldl World.alloc w).heap.size=w.heap.size+os.length/\∀k,k<os.length->(os.foldl World.alloc w).heap[w.heap.size+k]? =os[k]?
 | [],w=>⟨Below.refl _ _,rfl,λk h=>by simp at h⟩
 | o::os,w=>by
  obtain⟨h1,h2,h3⟩:=pQ os (w.alloc o);rw[cQ]at h2 h3;refine⟨(aD w o).trans (h1.mono (by simp)),by rw[List.foldl_cons,h2,List.length_cons];omega,λk hk=>?_⟩;rw[List.foldl_cons];cases k with
  | zero=>
   rw[h1.block _ (by simp),Nat.add_zero,cY,if_pos rfl];rfl
  | succ k=>
   have:=h3 k (by simpa using hk);rw[show w.heap.size+(k+1)=w.heap.size+1+k by omega,this];rfl
theorem aB6 {w:World} {g i:Nat} {cs:Array Value} {t:TypeId} {fr:Nat × Nat} (h:w.heap[g]? =some (.cells cs t fr))(v:Value):(w.setCell ⟨g,i,none⟩ v).heap[g]? =some (.cells (cs.setIfInBounds i v) t fr):=by
 simp[World.setCell,Array.getElem?_modify,h]
theorem Rd.takeN {w:World} {B size n c:Nat} {A:Option Addr} {rows:List (List Tr)} (h:Rd w B (.sl size rows) (.slice A n c)) {k:Nat} (hk:k<=rows.length)(h0:0<k):Rd w B (.sl size (rows.take k)) (.slice A k c):=by
 cases h with
 | none_=>simp at hk;omega
 | empty _ a=>simp at hk;omega
 | row _ b off c _ us hl hc hn hm hb hcell hr=>
  have hlen:(rows.take k).length=k:=by rw[List.length_take];omega
  have:=Rd.row size b off c (rows.take k) us (λr hr=>hl r (List.mem_of_mem_take hr)) (by omega) (by omega) hm hb (λi j hi hj=>hcell i j (by omega) hj) (λi hi j hj=>by
   simp only[List.getElem_take]at hj ⊢;exact hr i (by omega) j hj)
  rw[hlen]at this;exact this
structure WkH (h:Nat)(cl:Value)(W:World):Prop where
 size:h+10<W.heap.size
 b1:W.heap[h+1]? =some (.cells #[.int .i64 2,.slice none 0 0] 51 (0,0))
 b2:W.heap[h+2]? =some (.cells #[.bool false,.int .i64 1,.slice (some ⟨h+1,0,none⟩) 1 1,.int .i64 0,.slice none 0 0] 53 (0,0))
 b3:W.heap[h+3]? =some (.cells #[.int .i64 (-1),.slice none 0 0] 51 (0,0))
 b4:W.heap[h+4]? =some (.cells #[.bool true,.int .i64 1,.slice (some ⟨h+3,0,none⟩) 1 1,.int .i64 0,.slice none 0 0] 53 (0,0))
 b5:W.heap[h+5]? =some (.cells #[.int .i64 0] 3 (0,0))
 b6:W.heap[h+6]? =some (.cells #[.int .i64 1] 3 (0,0))
 b7:W.heap[h+7]? =some (.cells #[.int .i64 1,.int .i64 0] 3 (0,0))
 b8:W.heap[h+8]? =some (.cells #[.int .i64 0] 3 (0,0))
 b9:W.heap[h+9]? =some (.cells #[.int .i64 1,.slice none 0 0,.slice (some ⟨h+5,0,none⟩) 1 1,.slice none 0 0,.slice none 0 0,.slice (some ⟨h+2,0,none⟩) 1 1,.int .i64 1,.slice none 0 0,.slice (some ⟨h+6,0,none⟩) 1 1,.slice none 0 0,.slice none 0 0,.slice (some ⟨h+4,0,none⟩) 1 1,.int .i64 8,.slice (some ⟨h+7,0,none⟩) 2 2,.slice (some ⟨h+8,0,none⟩) 1 1,.slice none 0 0,.slice none 0 0,cl] 45 (0,0))
 b10:W.heap[h+10]? =some (.cells #[.slice (some ⟨h+2,0,none⟩) 1 1,.slice (some ⟨h+4,0,none⟩) 1 1] 38 (0,0))
namespace WkH
variable {h:Nat} {cl:Value} {W W':World}
theorem low (k:WkH h cl W)(hb:Below W.heap.size W W'):WkH h cl W' where
 size:=Nat.lt_of_lt_of_le k.size hb.size
 b1:=(hb.block _ (by have:=k.size;omega)).trans k.b1
 b2:=(hb.block _ (by have:=k.size;omega)).trans k.b2
 b3:=(hb.block _ (by have:=k.size;omega)).trans k.b3
 b4:=(hb.block _ (by have:=k.size;omega)).trans k.b4
 b5:=(hb.block _ (by have:=k.size;omega)).trans k.b5
 b6:=(hb.block _ (by have:=k.size;omega)).trans k.b6
 b7:=(hb.block _ (by have:=k.size;omega)).trans k.b7
 b8:=(hb.block _ (by have:=k.size;omega)).trans k.b8
 b9:=(hb.block _ (by have:=k.size;omega)).trans k.b9
 b10:=(hb.block _ (by have:=k.size;omega)).trans k.b10
theorem set (k:WkH h cl W)(u:Value):WkH h u (W.setCell ⟨h+9,17,none⟩ u) where
 size:=by have:=k.size;simpa [World.setCell]using this
 b1:=(Below.heap_setCell _ _ _ _ (by show h+1≠h+9;omega)).trans k.b1
 b2:=(Below.heap_setCell _ _ _ _ (by show h+2≠h+9;omega)).trans k.b2
 b3:=(Below.heap_setCell _ _ _ _ (by show h+3≠h+9;omega)).trans k.b3
 b4:=(Below.heap_setCell _ _ _ _ (by show h+4≠h+9;omega)).trans k.b4
 b5:=(Below.heap_setCell _ _ _ _ (by show h+5≠h+9;omega)).trans k.b5
 b6:=(Below.heap_setCell _ _ _ _ (by show h+6≠h+9;omega)).trans k.b6
 b7:=(Below.heap_setCell _ _ _ _ (by show h+7≠h+9;omega)).trans k.b7
 b8:=(Below.heap_setCell _ _ _ _ (by show h+8≠h+9;omega)).trans k.b8
 b9:=(aB6 k.b9 u).trans rfl
 b10:=(Below.heap_setCell _ _ _ _ (by show h+10≠h+9;omega)).trans k.b10
theorem args (k:WkH h cl W):Rd W W.heap.size (.sl 2 [bB (.mk 2 [])]) (.slice (some ⟨h+1,0,none⟩) 1 1):=
 fR (size:=2) (n:=1) (L:=[[.int .i64 2,.slice none 0 0]]) k.b1 (by have:=k.size;omega) rfl rfl rfl (by simp[bB]) (by simp) (λp hp=>by
  obtain rfl:=List.mem_singleton.1 hp;intro j hj hj';match j,hj' with
  | 0,_=>exact .leaf _
  | 1,_=>exact .none_ _) (by decide)
theorem args2 (k:WkH h cl W):Rd W W.heap.size (.sl 2 [bB (.mk (-1) [])]) (.slice (some ⟨h+3,0,none⟩) 1 1):=
 fR (size:=2) (n:=1) (L:=[[.int .i64 (-1),.slice none 0 0]]) k.b3 (by have:=k.size;omega) rfl rfl rfl (by simp[bB]) (by simp) (λp hp=>by
  obtain rfl:=List.mem_singleton.1 hp;intro j hj hj';match j,hj' with
  | 0,_=>exact .leaf _
  | 1,_=>exact .none_ _) (by decide)
theorem pos (k:WkH h cl W):Rd W W.heap.size (aT iE) (.slice (some ⟨h+2,0,none⟩) 1 1):=
 fR (size:=5) (n:=1) (L:=[[.bool false,.int .i64 1,.slice (some ⟨h+1,0,none⟩) 1 1,.int .i64 0,.slice none 0 0]]) k.b2 (by have:=k.size;omega) rfl rfl rfl (by simp[iE,nT]) (by simp) (λp hp=>by
  obtain rfl:=List.mem_singleton.1 hp;intro j hj hj';match j,hj' with
  | 0,_=>exact .leaf _
  | 1,_=>exact .leaf _
  | 2,_=>exact k.args
  | 3,_=>exact .leaf _
  | 4,_=>exact .none_ _) (by decide)
theorem neg (k:WkH h cl W):Rd W W.heap.size (aT oD) (.slice (some ⟨h+4,0,none⟩) 1 1):=
 fR (size:=5) (n:=1) (L:=[[.bool true,.int .i64 1,.slice (some ⟨h+3,0,none⟩) 1 1,.int .i64 0,.slice none 0 0]]) k.b4 (by have:=k.size;omega) rfl rfl rfl (by simp[oD,nT]) (by simp) (λp hp=>by
  obtain rfl:=List.mem_singleton.1 hp;intro j hj hj';match j,hj' with
  | 0,_=>exact .leaf _
  | 1,_=>exact .leaf _
  | 2,_=>exact k.args2
  | 3,_=>exact .leaf _
  | 4,_=>exact .none_ _) (by decide)
theorem input (k:WkH h cl W):Rd W W.heap.size (eY gV) (.slice (some ⟨h+10,0,none⟩) 2 2):=
 fR (size:=1) (n:=2) (L:=[[.slice (some ⟨h+2,0,none⟩) 1 1],[.slice (some ⟨h+4,0,none⟩) 1 1]]) k.b10 (by have:=k.size;omega) rfl rfl rfl (by simp[gV]) (by simp) (λp hp=>by
  rcases List.mem_cons.1 hp with rfl | hp
  . intro j hj hj';match j,hj' with
    | 0,_=>exact k.pos
  obtain rfl:=List.mem_singleton.1 hp;intro j hj hj';match j,hj' with
  | 0,_=>exact k.neg) (by decide)
theorem is5 (k:WkH h cl W):Rd W W.heap.size (bM [0]) (.slice (some ⟨h+5,0,none⟩) 1 1):=
 fR (size:=1) (n:=1) (L:=[[.int .i64 0]]) k.b5 (by have:=k.size;omega) rfl rfl rfl (by simp) (by simp) (λp hp=>by
  simp at hp
  first | (obtain rfl:=hp) | (rcases hp with rfl | rfl)
  all_goals
   intro j hj hj';match j,hj' with
   | 0,_=>exact .leaf _) (by decide)
theorem is6 (k:WkH h cl W):Rd W W.heap.size (bM [1]) (.slice (some ⟨h+6,0,none⟩) 1 1):=
 fR (size:=1) (n:=1) (L:=[[.int .i64 1]]) k.b6 (by have:=k.size;omega) rfl rfl rfl (by simp) (by simp) (λp hp=>by
  simp at hp
  first | (obtain rfl:=hp) | (rcases hp with rfl | rfl)
  all_goals
   intro j hj hj';match j,hj' with
   | 0,_=>exact .leaf _) (by decide)
theorem is7 (k:WkH h cl W):Rd W W.heap.size (bM [1,0]) (.slice (some ⟨h+7,0,none⟩) 2 2):=
 fR (size:=1) (n:=2) (L:=[[.int .i64 1],[.int .i64 0]]) k.b7 (by have:=k.size;omega) rfl rfl rfl (by simp) (by simp) (λp hp=>by
  simp at hp
  first | (obtain rfl:=hp) | (rcases hp with rfl | rfl)
  all_goals
   intro j hj hj';match j,hj' with
   | 0,_=>exact .leaf _) (by decide)
theorem is8 (k:WkH h cl W):Rd W W.heap.size (bM [0]) (.slice (some ⟨h+8,0,none⟩) 1 1):=
 fR (size:=1) (n:=1) (L:=[[.int .i64 0]]) k.b8 (by have:=k.size;omega) rfl rfl rfl (by simp) (by simp) (λp hp=>by
  simp at hp
  first | (obtain rfl:=hp) | (rcases hp with rfl | rfl)
  all_goals
   intro j hj hj';match j,hj' with
   | 0,_=>exact .leaf _) (by decide)
theorem steps (k:WkH h cl W) {c:Cl} (hc:Rd W W.heap.size (aT c) cl):Rd W W.heap.size (gO [wk1,wk2,wk3 c]) (.slice (some ⟨h+9,0,none⟩) 3 3):=
 fR (size:=6) (n:=3) (L:=[[.int .i64 1,.slice none 0 0,.slice (some ⟨h+5,0,none⟩) 1 1,.slice none 0 0,.slice none 0 0,.slice (some ⟨h+2,0,none⟩) 1 1],[.int .i64 1,.slice none 0 0,.slice (some ⟨h+6,0,none⟩) 1 1,.slice none 0 0,.slice none 0 0,.slice (some ⟨h+4,0,none⟩) 1 1],[.int .i64 8,.slice (some ⟨h+7,0,none⟩) 2 2,.slice (some ⟨h+8,0,none⟩) 1 1,.slice none 0 0,.slice none 0 0,cl]]) k.b9 (by have:=k.size;omega) rfl rfl rfl (by simp[eZ]) (by simp) (λp hp=>by
  rcases List.mem_cons.1 hp with rfl | hp
  . intro j hj hj';match j,hj' with
    | 0,_=>exact .leaf _
    | 1,_=>exact .none_ _
    | 2,_=>exact k.is5
    | 3,_=>exact .none_ _
    | 4,_=>exact .none_ _
    | 5,_=>exact k.pos
  rcases List.mem_cons.1 hp with rfl | hp
  . intro j hj hj';match j,hj' with
    | 0,_=>exact .leaf _
    | 1,_=>exact .none_ _
    | 2,_=>exact k.is6
    | 3,_=>exact .none_ _
    | 4,_=>exact .none_ _
    | 5,_=>exact k.neg
  obtain rfl:=List.mem_singleton.1 hp;intro j hj hj';match j,hj' with
  | 0,_=>exact .leaf _
  | 1,_=>exact k.is7
  | 2,_=>exact k.is8
  | 3,_=>exact .none_ _
  | 4,_=>exact .none_ _
  | 5,_=>exact hc) (by decide)
end WkH
def wkO (w:World)(cl:Value):List Obj:=[.cells #[.int .i64 2,.slice none 0 0] 51 (0,0),.cells #[.int .i64 2,.slice none 0 0] 51 (0,0),.cells #[.bool false,.int .i64 1,.slice (some ⟨w.heap.size+1,0,none⟩) 1 1,.int .i64 0,.slice none 0 0] 53 (0,0),.cells #[.int .i64 (-1),.slice none 0 0] 51 (0,0),.cells #[.bool true,.int .i64 1,.slice (some ⟨w.heap.size+1+1+1,0,none⟩) 1 1,.int .i64 0,.slice none 0 0] 53 (0,0),.cells #[.int .i64 0] 3 (0,0),.cells #[.int .i64 1] 3 (0,0),.cells #[.int .i64 1,.int .i64 0] 3 (0,0),.cells #[.int .i64 0] 3 (0,0),.cells #[.int .i64 1,.slice none 0 0,.slice (some ⟨w.heap.size+1+1+1+1+1,0,none⟩) 1 1,.slice none 0 0,.slice none 0 0,.slice (some ⟨w.heap.size+1+1,0,none⟩) 1 1,.int .i64 1,.slice none 0 0,.slice (some ⟨w.heap.size+1+1+1+1+1+1,0,none⟩) 1 1,.slice none 0 0,.slice none 0 0,.slice (some ⟨w.heap.size+1+1+1+1,0,none⟩) 1 1,.int .i64 8,.slice (some ⟨w.heap.size+1+1+1+1+1+1+1,0,none⟩) 2 2,.slice (some ⟨w.heap.size+1+1+1+1+1+1+1+1,0,none⟩) 1 1,.slice none 0 0,.slice none 0 0,cl] 45 (0,0),.cells #[.slice (some ⟨w.heap.size+1+1,0,none⟩) 1 1,.slice (some ⟨w.heap.size+1+1+1+1,0,none⟩) 1 1] 38 (0,0)]
def wkW (w:World):World:=(wkO w (.slice none 0 0)).foldl World.alloc w
theorem aP6 (w:World):WkH w.heap.size (.slice none 0 0) (wkW w)/\Below w.heap.size w (wkW w):=by
 obtain⟨h1,h2,h3⟩:=pQ (wkO w (.slice none 0 0)) w;have h2:(wkW w).heap.size=w.heap.size+11:=h2;refine⟨⟨by omega,h3 1 (show 1<11 by omega),h3 2 (show 2<11 by omega),h3 3 (show 3<11 by omega),h3 4 (show 4<11 by omega),h3 5 (show 5<11 by omega),h3 6 (show 6<11 by omega),h3 7 (show 7<11 by omega),h3 8 (show 8<11 by omega),h3 9 (show 9<11 by omega),h3 10 (show 10<11 by omega)⟩,h1⟩
theorem aK1 (c:Cl)(hc:c=[]\/c=iE):StepOk [wk1,wk2,wk3 c]:=by
 have hm:∀q∈[wk1,wk2,wk3 c],q=wk1\/q=wk2\/q=wk3 c:=λq hq=>by simpa using hq
 refine⟨λq hq=>?_,λq hq=>?_,λq hq=>?_⟩
 . rcases hm q hq with rfl | rfl | rfl
   . show ∀x∈iE,kX x=true;decide+kernel
   . show ∀x∈oD,kX x=true;decide+kernel
   show ∀x∈c,kX x=true
   rcases hc with rfl | rfl <;> decide+kernel
 . rcases hm q hq with rfl | rfl | rfl
   . show aR iE<=10000000000;decide+kernel
   . show aR oD<=10000000000;decide+kernel
   show aR c<=10000000000
   rcases hc with rfl | rfl <;> decide+kernel
 rcases hm q hq with rfl | rfl | rfl
 . decide
 . decide
 show ([1,0]:List Int).length<=2000000
 decide
theorem aO1:StepOk [wk1]:=by
 have h:=aK1 [] (.inl rfl);have hm:∀q∈[wk1],q∈[wk1,wk2,wk3 []]:=λq hq=>by rw[List.mem_singleton.1 hq];exact List.mem_cons_self ..
 exact⟨λq hq=>h.rng q (hm q hq),λq hq=>h.sz q (hm q hq),λq hq=>h.par q (hm q hq)⟩
theorem dM (w:World):Calls Try.prog 11 #[] w (aP true w):=by
 obtain⟨hW,hB⟩:=aP6 w;have HW:=Lh hW;have HB:=Lh hB;clear hW hB;go_enter Try.func11,Try.ntmps11;go_upto_region 6 with fail
 show Code.wp _ _ _ _ (wkW w)
 generalize wkW w=W at HW HB ⊢;go_upto_region 7 with(
  go_at_call 24
  refine(oE gV [wk1,wk2,wk3 []] _ _ _ W HW.out.input (HW.out.steps (.none_ _)) (Nat.le_refl _) (aK1 [] (.inl rfl))).mono ?_;rintro e w1 ⟨hb1,a1,e1,rfl,hp1⟩;obtain⟨rfl,rfl⟩:=aO2 hp1;have Hb1:=Lh hb1;clear hb1 hp1)
 have H1:=Lh (HW.out.low Hb1.out);have HB1:=Lh (HB.out.trans (Hb1.out.mono HB.out.size));clear HW HB Hb1;go_upto_region 8 with(
  go_at_call 24
  refine(oE gV [wk1] _ _ _ w1 H1.out.input (Rd.takeN (size:=6) (k:=1) (rows:=[wk1,wk2,wk3 []].map eZ) (H1.out.steps (.none_ _)) (by simp) (by decide)) (Nat.le_refl _) aO1).mono ?_;rintro e w2 ⟨hb2,a2,e2,rfl,hp2⟩;obtain rfl:=aO3 hp2;have Hb2:=Lh hb2;clear hb2 hp2)
 have H2:=Lh (H1.out.low Hb2.out);have HB2:=Lh (HB1.out.trans (Hb2.out.mono HB1.out.size));clear H1 HB1 Hb2;have b9:w2.heap[w.heap.size+1+1+1+1+1+1+1+1+1]? =_:=H2.out.b9;have c2:=λo=>cell_of_row w2 (w.heap.size+1+1+1+1+1+1+1+1+1) o _ _ _ b9
 have f2:=λo=>frozen_of_row w2 (w.heap.size+1+1+1+1+1+1+1+1+1) o _ _ b9
 clear b9;go_upto_region 9 with fail
 have H3:Hid (WkH w.heap.size (.slice (some ⟨w.heap.size+1+1,0,none⟩) 1 1) (w2.setCell ⟨w.heap.size+1+1+1+1+1+1+1+1+1,17,none⟩ (.slice (some ⟨w.heap.size+1+1,0,none⟩) 1 1))):=Lh (H2.out.set _);have HB3:=Lh (HB2.out.setCell (p:=⟨w.heap.size+1+1+1+1+1+1+1+1+1,17,none⟩) (by show w.heap.size<=w.heap.size+1+1+1+1+1+1+1+1+1;omega) (.slice (some ⟨w.heap.size+1+1,0,none⟩) 1 1));clear c2 f2;generalize w2.setCell ⟨w.heap.size+1+1+1+1+1+1+1+1+1,17,none⟩ (.slice (some ⟨w.heap.size+1+1,0,none⟩) 1 1)=w3 at H3 HB3 ⊢;go_wp2_with (
  go_at_call 24
  refine(oE gV [wk1,wk2,wk3 iE] _ _ _ w3 H3.out.input (H3.out.steps H3.out.pos) (Nat.le_refl _) (aK1 iE (.inr rfl))).mono ?_;rintro e w4 ⟨hb4,a4,e4,rfl,hp4⟩;obtain⟨rfl,rfl⟩:=aO4 hp4;have Hb4:=Lh hb4;clear hb4 hp4)
 go_ret;exact⟨rfl,HB3.out.trans (Hb4.out.mono HB3.out.size)⟩
theorem aP4 {sig:List Sy} (h:∃h:0<sig.length,sig[0].ar=0/\sig[0].pr=true):SgOk (fP sig):=by
 obtain⟨h0,h1,h2⟩:=h;have e:sig[(0:Int).toNat]? =some sig[0]:=List.getElem?_eq_getElem h0;refine⟨?_,?_⟩
 . show ((sig[(0:Int).toNat]?).map Sy.pr).getD false=true
   rw[e];exact h2
 show (if (0:Int)<0 then none else(sig[(0:Int).toNat]?).map λs=>s.ar.toNat)=some 0
 rw[if_neg (by omega),e];show some sig[0].ar.toNat=some 0
 rw[h1];rfl
theorem zZ {sig:List Sy} {N:Nat} {tab:List (List Int)} (ha:mC sig) {c:Cl} (h1:dY sig c=true)(h2:nK (cN N tab) c=true):mE (fP sig) (cN N tab) c:=
 ⟨(jF ha h1).1,(kT _ _).1 h2⟩
theorem lV {sig:List Sy} (ha:mC sig) {c:Cl} (h:dY sig c=true):(∀x∈c,(bQ (fP sig) x.l/\fM 48 x.l=true)/\(bQ (fP sig) x.r/\fM 48 x.r=true))/\(jS c).length<=8:=
 ⟨λx hx=>qJ ha ((jF ha h).2.1 x hx),(jF ha h).2.2⟩
theorem aF0 {sig:List Sy} {N:Nat} {tab:List (List Int)} (ha:mC sig) {c:Cl} (hr:∀x∈c,kX x=true)(hf:eK c=true)(hg:mE (fP sig) (cN N tab) c):
 (∀x∈c,fM 48 x.l=true/\fM 48 x.r=true)/\aR c<=1000000/\((jS c).length<=8->dY sig c=true/\nK (cN N tab) c=true):=by
 have hfc:=qA hr hf;refine⟨λx hx=>⟨?_,?_⟩,hfc.zc,λh8=>⟨aE3 ha hg.1 hfc.pat h8,(kT _ _).2 hg.2⟩⟩
 . exact(jW ha _ (jX ha _ (hg.1 x hx).l (hfc.pat x hx).1)).2
 exact(jW ha _ (jX ha _ (hg.1 x hx).r (hfc.pat x hx).2)).2
theorem tX (sig:List Sy)(n0:Int)(tab:List (List Int))(inp:List Cl)(ps:List Sp)(n:Int)(vs vt vi vl:Value)(B:Nat)(w:World)(hsg:Rd w B (fX sig) vs)(htb:Rd w B (iX tab) vt)(hi:Rd w B (eY inp) vi)(hp:Rd w B (gO ps) vl)(hB:B<=w.heap.size)
 (hok:StepOk ps) (hzi:∀c∈inp,aR c<=2000000) (hzp:∀s∈ps,aR s.clause<=2000000):
 Calls Try.prog 3 #[.agg #[vs],.agg #[.int .i64 n0,vt],vi,vl,.int .i64 n] w (aP true w):=by
 obtain⟨As,cs,rfl,-,-,-⟩:=Rd.row_form (show Rd w B (.sl 3 (sig.map fZ)) vs from hsg);obtain⟨At,ct,rfl,-,-,-⟩:=Rd.row_form (show Rd w B (.sl 1 (tab.map λr=>[bM r])) vt from htb);obtain⟨Ai,ci,rfl,hi1,hi2,hi3⟩:=Rd.row_form (show Rd w B (.sl 1 (inp.map λc=>[aT c])) vi from hi);obtain⟨Ap,cp,rfl,hp1,hp2,hp3⟩:=Rd.row_form (show Rd w B (.sl 6 (ps.map eZ)) vl from hp);have HSg:=Lh hsg;have HTb:=Lh htb;have Hi:=Lh hi;have Hp:=Lh hp;have Hok:=Lh hok;have Hzi:=Lh hzi;have Hzp:=Lh hzp;clear hsg htb hi hp hok hzi hzp;go_enter Try.func3,Try.ntmps3;go_upto_region 1 with fail
 obtain⟨hx1,hx2,hB2,hz2⟩:=aO w (.cells #[.slice As sig.length cs] 24) (.cells #[.int .i64 n0,.slice At tab.length ct] 27);have hx1:aU w.heap.size 24 (.slice As sig.length cs) _:=hx1;have hx2:aL (w.heap.size+1) 27 (.int .i64 n0) (.slice At tab.length ct) _:=hx2;generalize (w.alloc (.cells #[.slice As sig.length cs] 24)).alloc (.cells #[.int .i64 n0,.slice At tab.length ct] 27)=w0 at hx1 hx2 hB2 hz2 ⊢;have HX0:=Lh hx1;have HW0:=Lh hx2;have HB0:=Lh hB2;clear hx1 hx2 hB2;go_wp2_with fail;refine(aC6 inp _ B w0 (Hi.out.low HB0.out hB) Hzi.out (by omega)).mono ?_;rintro e w1 ⟨b1,rfl,hb1⟩;have Hb1:=Lh hb1;have hB1:=HB0.out.trans (hb1.mono (by omega));have HB1:=Lh hB1;clear hb1 hB1;cases b1 with
 | true=>
  go_wp2_with (
   go_at_call 11
   refine(dM _).mono ?_;rintro e w9 ⟨rfl,hb9⟩)
  go_ret;exact⟨rfl,HB1.out.trans (hb9.mono HB1.out.size)⟩
 | false=>
 go_wp2_with fail;refine(wP ps _ B w1 (Hp.out.low HB1.out hB) Hzp.out (by have:=HB1.out.size;omega)).mono ?_;rintro e w2 ⟨b2,rfl,hb2⟩;have Hb2:=Lh (Hb1.out.trans (hb2.mono Hb1.out.size));have HB2:=Lh (HB0.out.trans (Hb2.out.mono (by omega)));clear hb2 Hb1 HB1;cases b2 with
 | true=>
  go_wp2_with (
   go_at_call 11
   refine(dM _).mono ?_;rintro e w9 ⟨rfl,hb9⟩)
  go_ret;exact⟨rfl,HB2.out.trans (hb9.mono HB2.out.size)⟩
 | false=>
 have x10:=(HX0.out.low Hb2.out).cell;go_wp2_with fail;refine(wF sig _ B w2 (HSg.out.low HB2.out hB) (by have:=HB2.out.size;omega)).mono ?_;rintro e w3 ⟨n3,rfl,hb3,hfst⟩;have Hb3:=Lh (Hb2.out.trans (hb3.mono Hb2.out.size));have HB3:=Lh (HB0.out.trans (Hb3.out.mono (by omega)));have Hfst:=Lh hfst;clear hb3 Hb2 HB2 hfst x10;by_cases hn3:n3=0
 case neg=>
  go_wp2_with (
   go_at_call 11
   refine(dM _).mono ?_;rintro e w9 ⟨rfl,hb9⟩)
  go_ret;exact⟨rfl,HB3.out.trans (hb9.mono HB3.out.size)⟩
 have hgs:=aP4 (Hfst.out hn3);have x10:=(HX0.out.low Hb3.out).cell;obtain⟨x20,x21,-⟩:=(HW0.out.low Hb3.out).cells;go_wp2_with fail;refine(aE7 sig n0 tab _ _ B w3 (HSg.out.low HB3.out hB) (HTb.out.low HB3.out hB) (by have:=HB3.out.size;omega)).mono ?_;rintro e w4 ⟨b4,rfl,hb4,hrw⟩;have Hb4:=Lh (Hb3.out.trans (hb4.mono Hb3.out.size));have HB4:=Lh (HB0.out.trans (Hb4.out.mono (by omega)));have Hrw:=Lh hrw;clear hb4 Hb3 HB3 hrw x10 x20 x21;cases b4 with
 | false=>
  go_wp2_with (
   go_at_call 11
   refine(dM _).mono ?_;rintro e w9 ⟨rfl,hb9⟩)
  go_ret;exact⟨rfl,HB4.out.trans (hb9.mono HB4.out.size)⟩
 | true=>
 obtain⟨N,rfl,hN3,hW⟩:=Hrw.out rfl;clear Hrw;obtain⟨b5,hb5⟩:∃b,dO inp ps n=b:=⟨_,rfl⟩;go_wp2_with fail;refine(aJ3 inp ps n _ _ B w4 (Hi.out.low HB4.out hB) (Hp.out.low HB4.out hB) (by have:=HB4.out.size;omega) Hok.out).mono ?_;rintro e w5 ⟨rfl,hb6⟩;have Hb5:=Lh (Hb4.out.trans (hb6.mono Hb4.out.size));have HB5:=Lh (HB0.out.trans (Hb5.out.mono (by omega)));have Hst:=Lh hb5;clear hb6 Hb4 HB4 hb5;rw[Hst.out];cases b5 with
 | false=>
  go_wp2_with (
   go_at_call 11
   refine(dM _).mono ?_;rintro e w9 ⟨rfl,hb9⟩)
  go_ret;exact⟨rfl,HB5.out.trans (hb9.mono HB5.out.size)⟩
 | true=>
 have hz5:=Hb5.out.size;have hx5:=HX0.out.low Hb5.out;have hxw5:=HW0.out.low Hb5.out;have HX5:=Lh hx5;have HW5:=Lh hxw5;have ha:mC sig:=λk h=>(hW.ar k h).1
 have hI:=aH3 hW;clear hx5 hxw5 HX0 HW0 Hb5 HB0 Hfst hn3;go_wp2_with fail;go_loopw [11] (λi wr=>∃k:Nat,k<=inp.length/\i=.int .i64 k/\(∀j (h:j<inp.length),j<k->mE (fP sig) (cN N tab) inp[j])/\Below w5.heap.size w5 wr) (λi _=>inp.length-(intOf i).toNat)
 case atStart=>exact⟨0,Nat.zero_le _,rfl,λj _ h=>by omega,Below.refl _ _⟩
 obtain⟨k,hk,rfl,hall,hbel⟩:=hrel;have hzr:=hbel.size;have hxr:=HX5.out.low hbel;have hxwr:=HW5.out.low hbel;have x10:=hxr.cell;obtain⟨x20,x21,-⟩:=hxwr.cells;have HXr:=Lh hxr;have HXWr:=Lh hxwr;have Hall:=Lh hall;have Hbel:=Lh hbel;have hbr:Below w.heap.size w wr:=HB5.out.trans (hbel.mono (by omega));have Hbr:=Lh hbr;clear hxr hxwr hall hbel hbr;by_cases hlt:k<inp.length
 . obtain⟨ib,io,A1,c1,rfl,hib,k0,hrc⟩:=(Hi.out.low Hbr.out hB).cl_at hlt;have hc1:=fun(w':World) (hb:Below wr.heap.size wr w')=>lU sig ha inp[k] (.slice A1 inp[k].length c1) (.slice As sig.length cs) B w' (hrc.low hb (by omega)) (HSg.out.low (Hbr.out.trans (hb.mono Hbr.out.size)) hB) (by have:=hb.size;omega)
   have K0:=Lh k0;have hkk:¬((inp.length:Int)<=(k:Int)):=by omega
   clear k0;obtain⟨pb,hpb⟩:∃b,dY sig inp[k]=b:=⟨_,rfl⟩;rw[hpb]at hc1;have Hc1:=Lh hc1;clear hc1;cases pb with
   | false=>
    have Hc2:=Hc1;clear hrc hpb;go_upto_region 6 with fail
    clear x10 x20 x21;refine rg 16 (λ_ w'=>Below wr.heap.size wr w') ?_;intro wd hwd hbd;refine⟨?_,λhS=>?_⟩
    . exact hwd ▸ hbd
    refine tk 0 (.agg #[.slice As sig.length cs]) hS ?_ λhS=>?_
    . intro w' L hn hw;have o1:=(HXr.out.low hw).cell;simp[execOp,go_sem,o1]
    refine ta 1 (.slice (some ⟨ib,io,none⟩) inp.length ci) hS λhS=>?_
    refine ta 2 (.int .i64 (k:Nat)) hS λhS=>?_
    refine tk 3 (.pointer (some ⟨ib,io+k,none⟩)) hS ?_ λhS=>?_
    . intros;simp[execOp,go_sem,hlt,hkk]
    refine tk 4 (.slice A1 inp[k].length c1) hS ?_ λhS=>?_
    . intro w' L hn hw;have q0:=(hw.cell (p:=⟨ib,io+k,none⟩) (show ib<wr.heap.size by omega)).trans K0.out;simp[execOp,go_sem,q0]
    refine so 5 ?_;have hbd4:Below wr.heap.size wr wd:=hwd ▸ hbd;refine aG ?_ (Hc1.out wd hbd4) ?_
    . simp[execOp,resolve,invoke,go_sem]
    rintro e w7 ⟨rfl,hb7⟩;refine⟨_,rfl,?_⟩;refine gS ?_ λhS=>?_
    . exact hS.trans (hb7.mono hS.size)
    refine ta 6 (.bool true) hS λhS=>?_
    refine ta 7 (.bool true) hS λhS=>?_
    refine sk 8 hS λhS=>?_
    refine sk 9 hS λhS=>?_
    refine sk 10 hS λhS=>?_
    refine sk 11 hS λhS=>?_
    refine sk 12 hS λhS=>?_
    refine sk 13 hS λhS=>?_
    refine sk 14 hS λhS=>?_
    refine ta 15 (.bool true) hS λhS=>?_
    refine dn ?_;have HS:=Lh hS;have hbz:=hS.size;clear hS hwd hbd hb7 hbd4;have hfin:=Hbr.out.trans (HS.out.mono Hbr.out.size);go_wp2_with (
     go_at_call 11
     refine(dM _).mono ?_;rintro e w9 ⟨rfl,hb9⟩)
    go_ret;exact⟨rfl,hfin.trans (hb9.mono hfin.size)⟩
   | true=>
    obtain⟨hft,h8⟩:=lV ha hpb;have hc2:=fun(w':World) (hb:Below wr.heap.size wr w')=>lZ sig N tab hW (by omega) inp[k] hft h8 (.slice A1 inp[k].length c1) (.slice At tab.length ct) B w' (hrc.low hb (by omega)) (HTb.out.low (Hbr.out.trans (hb.mono Hbr.out.size)) hB) (by have:=hb.size;omega)
    obtain⟨tb,htb⟩:∃b,nK (cN N tab) inp[k]=b:=⟨_,rfl⟩;rw[htb]at hc2;have Hc2:=Lh hc2;clear hc2 hft h8 hrc;cases tb with
    | false=>
     clear hpb htb;go_upto_region 6 with fail
     clear x10 x20 x21;refine rg 16 (λ_ w'=>Below wr.heap.size wr w') ?_;intro wd hwd hbd;refine⟨?_,λhS=>?_⟩
     . exact hwd ▸ hbd
     refine tk 0 (.agg #[.slice As sig.length cs]) hS ?_ λhS=>?_
     . intro w' L hn hw;have o1:=(HXr.out.low hw).cell;simp[execOp,go_sem,o1]
     refine ta 1 (.slice (some ⟨ib,io,none⟩) inp.length ci) hS λhS=>?_
     refine ta 2 (.int .i64 (k:Nat)) hS λhS=>?_
     refine tk 3 (.pointer (some ⟨ib,io+k,none⟩)) hS ?_ λhS=>?_
     . intros;simp[execOp,go_sem,hlt,hkk]
     refine tk 4 (.slice A1 inp[k].length c1) hS ?_ λhS=>?_
     . intro w' L hn hw;have q0:=(hw.cell (p:=⟨ib,io+k,none⟩) (show ib<wr.heap.size by omega)).trans K0.out;simp[execOp,go_sem,q0]
     refine so 5 ?_;have hbd4:Below wr.heap.size wr wd:=hwd ▸ hbd;refine aG ?_ (Hc1.out wd hbd4) ?_
     . simp[execOp,resolve,invoke,go_sem]
     rintro e w7 ⟨rfl,hb7⟩;refine⟨_,rfl,?_⟩;refine gS ?_ λhS=>?_
     . exact hS.trans (hb7.mono hS.size)
     refine ta 6 (.bool false) hS λhS=>?_
     refine ta 7 (.bool false) hS λhS=>?_
     refine tk 8 (.agg #[.int .i64 (N:Nat),.slice At tab.length ct]) hS ?_ λhS=>?_
     . intro w' L hn hw;have o2:=(HXWr.out.low hw).cells;simp[execOp,go_sem,o2.1,o2.2.1]
     refine ta 9 (.slice (some ⟨ib,io,none⟩) inp.length ci) hS λhS=>?_
     refine ta 10 (.int .i64 (k:Nat)) hS λhS=>?_
     refine tk 11 (.pointer (some ⟨ib,io+k,none⟩)) hS ?_ λhS=>?_
     . intros;simp[execOp,go_sem,hlt,hkk]
     refine tk 12 (.slice A1 inp[k].length c1) hS ?_ λhS=>?_
     . intro w' L hn hw;have q0:=(hw.cell (p:=⟨ib,io+k,none⟩) (show ib<wr.heap.size by omega)).trans K0.out;simp[execOp,go_sem,q0]
     refine so 13 ?_;refine aG ?_ (Hc2.out w7 hS) ?_
     . simp[execOp,resolve,invoke,go_sem]
     rintro e w8 ⟨rfl,hb8⟩;refine⟨_,rfl,?_⟩;refine gS ?_ λhS=>?_
     . exact hS.trans (hb8.mono hS.size)
     refine ta 14 (.bool true) hS λhS=>?_
     refine ta 15 (.bool true) hS λhS=>?_
     refine dn ?_;have HS:=Lh hS;have hbz:=hS.size;clear hS hwd hbd hb7 hbd4;have hfin:=Hbr.out.trans (HS.out.mono Hbr.out.size);go_wp2_with (
      go_at_call 11
      refine(dM _).mono ?_;rintro e w9 ⟨rfl,hb9⟩)
     go_ret;exact⟨rfl,hfin.trans (hb9.mono hfin.size)⟩
    | true=>
     have Hgd:=Lh (zZ ha hpb htb);clear hpb htb;go_upto_region 6 with fail
     clear x10 x20 x21;refine rg 16 (λ_ w'=>Below wr.heap.size wr w') ?_;intro wd hwd hbd;refine⟨?_,λhS=>?_⟩
     . exact hwd ▸ hbd
     refine tk 0 (.agg #[.slice As sig.length cs]) hS ?_ λhS=>?_
     . intro w' L hn hw;have o1:=(HXr.out.low hw).cell;simp[execOp,go_sem,o1]
     refine ta 1 (.slice (some ⟨ib,io,none⟩) inp.length ci) hS λhS=>?_
     refine ta 2 (.int .i64 (k:Nat)) hS λhS=>?_
     refine tk 3 (.pointer (some ⟨ib,io+k,none⟩)) hS ?_ λhS=>?_
     . intros;simp[execOp,go_sem,hlt,hkk]
     refine tk 4 (.slice A1 inp[k].length c1) hS ?_ λhS=>?_
     . intro w' L hn hw;have q0:=(hw.cell (p:=⟨ib,io+k,none⟩) (show ib<wr.heap.size by omega)).trans K0.out;simp[execOp,go_sem,q0]
     refine so 5 ?_;have hbd4:Below wr.heap.size wr wd:=hwd ▸ hbd;refine aG ?_ (Hc1.out wd hbd4) ?_
     . simp[execOp,resolve,invoke,go_sem]
     rintro e w7 ⟨rfl,hb7⟩;refine⟨_,rfl,?_⟩;refine gS ?_ λhS=>?_
     . exact hS.trans (hb7.mono hS.size)
     refine ta 6 (.bool false) hS λhS=>?_
     refine ta 7 (.bool false) hS λhS=>?_
     refine tk 8 (.agg #[.int .i64 (N:Nat),.slice At tab.length ct]) hS ?_ λhS=>?_
     . intro w' L hn hw;have o2:=(HXWr.out.low hw).cells;simp[execOp,go_sem,o2.1,o2.2.1]
     refine ta 9 (.slice (some ⟨ib,io,none⟩) inp.length ci) hS λhS=>?_
     refine ta 10 (.int .i64 (k:Nat)) hS λhS=>?_
     refine tk 11 (.pointer (some ⟨ib,io+k,none⟩)) hS ?_ λhS=>?_
     . intros;simp[execOp,go_sem,hlt,hkk]
     refine tk 12 (.slice A1 inp[k].length c1) hS ?_ λhS=>?_
     . intro w' L hn hw;have q0:=(hw.cell (p:=⟨ib,io+k,none⟩) (show ib<wr.heap.size by omega)).trans K0.out;simp[execOp,go_sem,q0]
     refine so 13 ?_;refine aG ?_ (Hc2.out w7 hS) ?_
     . simp[execOp,resolve,invoke,go_sem]
     rintro e w8 ⟨rfl,hb8⟩;refine⟨_,rfl,?_⟩;refine gS ?_ λhS=>?_
     . exact hS.trans (hb8.mono hS.size)
     refine ta 14 (.bool false) hS λhS=>?_
     refine ta 15 (.bool false) hS λhS=>?_
     refine dn ?_;have HS:=Lh hS;have hbz:=hS.size;clear hS hwd hbd hb7 hbd4;go_wp2_with fail;go_roundw
     case rel=>
      refine⟨k+1,by omega,by go_num,λj hj hjk=>?_,Hbel.out.trans (HS.out.mono (by omega))⟩;by_cases e:j=k
      . subst e;exact Hgd.out
      exact Hall.out j hj (by omega)
     case measure=>simp[intOf];omega
 have hin:∀x∈inp,mE (fP sig) (cN N tab) x:=λx hx=>by
  obtain⟨j,hj,rfl⟩:=List.mem_iff_getElem.1 hx;exact Hall.out j hj (by omega)
 obtain⟨s,hn0,hps,hpar,hfair,hsound⟩:=zE hgs hI hin Hst.out;obtain⟨nn,rfl⟩:∃m:Nat,n=(m:Int):=⟨n.toNat,by omega⟩;obtain⟨hnl,hse⟩:=List.getElem?_eq_some_iff.1 hps;have hnl:nn<ps.length:=hnl;have hse:ps[nn]=s:=hse;clear hin Hall hps;obtain⟨pb,po,v1,v2,v3,v4,v5,rfl,hpb,p0,p1,p2,p3,p4,p5,hsn⟩:=(Hp.out.low Hbr.out hB).sp_at hnl;rw[hse]at hsn;obtain⟨P1,d1,P2,d2,P3,d3,P4,d4,P5,d5,rfl,rfl,rfl,rfl,rfl,hn1,-,-,-,hn5⟩:=hsn.forms;have Hsn:=Lh hsn;have Q1:=Lh p1;have Q5:=Lh p5;have Hpar:=Lh hpar;have Hsound:=Lh hsound;have hnn:¬((ps.length:Int)<=(nn:Int)):=by omega
 have hrg:∀x∈s.clause,kX x=true:=Hok.out.rng s (by rw[<-hse];exact List.getElem_mem hnl);have Hrg:=Lh hrg;have hzw:=Hbr.out.size;clear p0 p1 p2 p3 p4 p5 hsn hpar hsound hse hrg;go_wp2_with fail;obtain⟨w8,hw8⟩:∃w8:World,w8=wr:=⟨_,rfl⟩;have H80:=Lh (show Below w8.heap.size w8 wr from by rw[hw8];exact Below.refl _ _);rw[<-hw8]at Hbr Hsn Q1 Q5 HXr HXWr hzw;clear hw8;go_loopw [12] (λi wr=>∃k:Nat,k<=s.parents.length/\i=.int .i64 k/\(∀j (h:j<s.parents.length),j<k->mE (fP sig) (cN N tab) ((ps[(s.parents[j]).toNat]?.map Sp.clause).getD []))/\Below w8.heap.size w8 wr) (λi _=>s.parents.length-(intOf i).toNat)
 case atStart=>exact⟨0,Nat.zero_le _,rfl,λj _ h=>by omega,H80.out⟩
 obtain⟨k,hk,rfl,hall,hbel⟩:=hrel;have hzr:=hbel.size;have hxr:=HXr.out.low hbel;have hxwr:=HXWr.out.low hbel;have x10:=hxr.cell;obtain⟨x20,x21,-⟩:=hxwr.cells;have HX9:=Lh hxr;have HXW9:=Lh hxwr;have Hall:=Lh hall;have Hbel:=Lh hbel;have hbr:Below w.heap.size w wr:=Hbr.out.trans (hbel.mono (by omega));have Hbr2:=Lh hbr;have q1:=(hbel.cell (p:=⟨pb,po+nn*6+1,none⟩) (show pb<w8.heap.size by omega)).trans Q1.out;have q5:=(hbel.cell (p:=⟨pb,po+nn*6+5,none⟩) (show pb<w8.heap.size by omega)).trans Q5.out;have hsn2:=Hsn.out.low hbel (by omega);have Hsn2:=Lh hsn2;clear hxr hxwr hall hbel hbr hsn2;by_cases hlt:k<s.parents.length
 . obtain⟨a1,o1,rfl,ha1,e0⟩:=Rd.leaf_at (f:=λn=>.int .i64 n) (show Rd wr B (.sl 1 (s.parents.map λn=>[.leaf (.int .i64 n)])) _ from Hsn2.out.parents) hlt;have hpv:=Hpar.out s.parents[k] (List.getElem_mem hlt);obtain⟨pv,hpve⟩:∃v,s.parents[k]=v:=⟨_,rfl⟩;rw[hpve]at e0 hpv;obtain⟨q,rfl⟩:∃q:Nat,pv=(q:Int):=⟨pv.toNat,by omega⟩;have hql:q<ps.length:=by omega
   obtain⟨pb',po',v1,v2,v3,v4,v5,hpp,-,-,-,-,-,-,e5,hsq⟩:=(Hp.out.low Hbr2.out hB).sp_at hql;obtain⟨rfl,rfl⟩:pb=pb'/\po=po':=by cases hpp;exact⟨rfl,rfl⟩
   obtain⟨A5,c5,rfl,-,-,-⟩:=Rd.cl_form hsq.clause;have hcq:(ps[((s.parents[k]).toNat)]?.map Sp.clause).getD []=ps[q].clause:=by rw[hpve,show (q:Int).toNat=q from rfl,List.getElem?_eq_getElem hql];rfl
   have hcl5:=hsq.clause;obtain⟨cq,hcqe⟩:∃c,ps[q].clause=c:=⟨_,rfl⟩;rw[hcqe]at hcl5 hcq e5;have Hcq:=Lh hcq;have Hcl5:=Lh hcl5;have hqq:¬((ps.length:Int)<=(q:Int)):=by omega
   have hkk:¬((s.parents.length:Int)<=(k:Int)):=by omega
   have e0:wr.cell? ⟨a1,o1+k,none⟩=some (.int .i64 (q:Nat)):=e0;clear hpp hsq hcq hcl5 hpve hcqe;obtain⟨bp,hbp⟩:∃b,dY sig cq=b:=⟨_,rfl⟩;have Hbp:=Lh hbp;clear hbp;go_wp2_with fail;refine(lU sig ha cq _ _ B wr Hcl5.out (HSg.out.low Hbr2.out hB) (by omega)).mono ?_;rw[Hbp.out];rintro e w9 ⟨rfl,hb9⟩;have Hb9:=Lh hb9;have hb09:=Hbr2.out.trans (hb9.mono (by omega));have Hb09:=Lh hb09;obtain⟨x20,x21,-⟩:=(HXW9.out.low hb9).cells;clear hb9 hb09;cases bp with
   | false=>
    go_wp2_with (
     go_at_call 11
     refine(dM _).mono ?_;rintro e w9 ⟨rfl,hb9⟩)
    go_ret;exact⟨rfl,Hb09.out.trans (hb9.mono Hb09.out.size)⟩
   | true=>
    obtain⟨hft,h8⟩:=lV ha Hbp.out;obtain⟨bt,hbt⟩:∃b,nK (cN N tab) cq=b:=⟨_,rfl⟩;have hct:=lZ sig N tab hW (by omega) cq hft h8 _ _ B w9 (Hcl5.out.low Hb9.out (by omega)) (HTb.out.low Hb09.out hB) (by have:=Hb9.out.size;omega);rw[hbt]at hct;have Hct:=Lh hct;have Hbt:=Lh hbt;clear hft h8 hct hbt;go_wp2_with fail;refine Hct.out.mono ?_;rintro e w10 ⟨rfl,hb10⟩;have hz9:=Hb9.out.size;have Hb010:=Lh (Hb09.out.trans (hb10.mono Hb09.out.size));have Hb10:=Lh (Hb9.out.trans (hb10.mono hz9));clear hb10;cases bt with
    | false=>
     go_wp2_with (
      go_at_call 11
      refine(dM _).mono ?_;rintro e w9 ⟨rfl,hb9⟩)
     go_ret;exact⟨rfl,Hb010.out.trans (hb9.mono Hb010.out.size)⟩
    | true=>
     have Hgd:=Lh (zZ ha Hbp.out Hbt.out);go_wp2_with fail;go_roundw
     case rel=>
      refine⟨k+1,by omega,by go_num,λj hj hjk=>?_,Hbel.out.trans (Hb10.out.mono (by omega))⟩;by_cases e:j=k
      . subst e;rw[Hcq.out];exact Hgd.out
      exact Hall.out j hj (by omega)
     case measure=>simp[intOf];omega
 have hgood:mE (fP sig) (cN N tab) s.clause:=Hsound.out λx hx=>by
  unfold jE at hx;obtain⟨pn,hpn,rfl⟩:=List.mem_map.1 hx;obtain⟨j,hj,rfl⟩:=List.mem_iff_getElem.1 hpn;exact Hall.out j hj (by omega)
 obtain⟨hlow,hzc,h8⟩:=aF0 ha Hrg.out hfair hgood;have hvr:=zM s.clause _ B wr hlow (by omega) Hsn2.out.clause (by omega);have Hvr:=Lh hvr;have H8:=Lh h8;clear hgood hlow h8 hvr;go_wp2_with fail;refine Hvr.out.mono ?_;rintro e w9 ⟨l',vo,rfl,hb9,hjn,hrv⟩;obtain⟨Av,cv,rfl,-,-,-⟩:=Rd.row_form (show Rd w9 w9.heap.size (.sl 1 (l'.map λn=>[.leaf (.int .i64 n)])) vo from hrv);have hz9:=hb9.size;have Hb9w:=Lh hb9;have Hb9:=Lh (Hbr2.out.trans (hb9.mono Hbr2.out.size));have hvl:(jS s.clause).length<=l'.length:=aM2 λx hx=>(hjn.2.1 x).2 (.inr hx)
 have hx9:=HX9.out.low hb9;have hxw9:=HXW9.out.low hb9;have q9:=(hb9.cell (p:=⟨pb,po+nn*6+5,none⟩) (show pb<wr.heap.size by omega)).trans q5;have hcl9:=Hsn2.out.clause.low hb9 (by omega);clear x10 x20 x21 hjn hrv hb9 HX9 HXW9;by_cases h8l:8<l'.length
 . have h8l':(8:Int)<(l'.length:Int):=by omega
   clear hx9 hxw9 q9 hcl9;go_wp2_with (
    go_at_call 11
    refine(dM _).mono ?_;rintro e w9 ⟨rfl,hb9⟩)
   go_ret;exact⟨rfl,Hb9.out.trans (hb9.mono Hb9.out.size)⟩
 have h8l':¬(8:Int)<(l'.length:Int):=by omega
 obtain⟨hpt1,hpt2⟩:=H8.out (by omega);obtain⟨hft,hf8⟩:=lV ha hpt1;have x10:=hx9.cell;obtain⟨x20,x21,-⟩:=hxw9.cells;have hc1:=fun(w':World) (hb:Below w9.heap.size w9 w')=>lU sig ha s.clause (.slice P5 s.clause.length d5) (.slice As sig.length cs) B w' (hcl9.low hb (by omega)) (HSg.out.low (Hb9.out.trans (hb.mono Hb9.out.size)) hB) (by have:=hb.size;omega)
 have hc2:=fun(w':World) (hb:Below w9.heap.size w9 w')=>lZ sig N tab hW (by omega) s.clause hft hf8 (.slice P5 s.clause.length d5) (.slice At tab.length ct) B w' (hcl9.low hb (by omega)) (HTb.out.low (Hb9.out.trans (hb.mono Hb9.out.size)) hB) (by have:=hb.size;omega)
 rw[hpt1]at hc1;rw[hpt2]at hc2;have Hc1:=Lh hc1;have Hc2:=Lh hc2;have HX9:=Lh hx9;have HXW9:=Lh hxw9;clear Q5;have Q5:=Lh q9;clear hc1 hc2 hx9 hxw9 q9 hcl9 hpt1 hpt2 hft hf8;go_upto_region 16 with fail
 clear x10 x20 x21;refine rg 20 (λ_ w'=>Below w9.heap.size w9 w') ?_;intro wd hwd hbd;refine⟨?_,λhS=>?_⟩
 . exact hwd ▸ hbd
 refine tk 0 (.agg #[.slice As sig.length cs]) hS ?_ λhS=>?_
 . intro w' L hn hw;have o1:=(HX9.out.low hw).cell;simp[execOp,go_sem,o1]
 refine ta 1 (.slice (some ⟨pb,po,none⟩) ps.length cp) hS λhS=>?_
 refine ta 2 (.int .i64 (nn:Nat)) hS λhS=>?_
 refine tk 3 (.pointer (some ⟨pb,po+nn*6,none⟩)) hS ?_ λhS=>?_
 . intros;simp[execOp,go_sem,hnl,hnn]
 refine ta 4 (.pointer (some ⟨pb,po+nn*6+5,none⟩)) hS λhS=>?_
 refine tk 5 (.slice P5 s.clause.length d5) hS ?_ λhS=>?_
 . intro w' L hn hw;have q0:=(hw.cell (p:=⟨pb,po+nn*6+5,none⟩) (show pb<w9.heap.size by omega)).trans Q5.out;simp[execOp,go_sem,q0]
 refine so 6 ?_;have hbd4:Below w9.heap.size w9 wd:=hwd ▸ hbd;refine aG ?_ (Hc1.out wd hbd4) ?_
 . simp[execOp,resolve,invoke,go_sem]
 rintro e w10 ⟨rfl,hb10⟩;refine⟨_,rfl,?_⟩;refine gS ?_ λhS=>?_
 . exact hS.trans (hb10.mono hS.size)
 refine ta 7 (.bool true) hS λhS=>?_
 refine tk 8 (.agg #[.int .i64 (N:Nat),.slice At tab.length ct]) hS ?_ λhS=>?_
 . intro w' L hn hw;have o2:=(HXW9.out.low hw).cells;simp[execOp,go_sem,o2.1,o2.2.1]
 refine ta 9 (.slice (some ⟨pb,po,none⟩) ps.length cp) hS λhS=>?_
 refine ta 10 (.int .i64 (nn:Nat)) hS λhS=>?_
 refine tk 11 (.pointer (some ⟨pb,po+nn*6,none⟩)) hS ?_ λhS=>?_
 . intros;simp[execOp,go_sem,hnl,hnn]
 refine ta 12 (.pointer (some ⟨pb,po+nn*6+5,none⟩)) hS λhS=>?_
 refine tk 13 (.slice P5 s.clause.length d5) hS ?_ λhS=>?_
 . intro w' L hn hw;have q0:=(hw.cell (p:=⟨pb,po+nn*6+5,none⟩) (show pb<w9.heap.size by omega)).trans Q5.out;simp[execOp,go_sem,q0]
 refine so 14 ?_;refine aG ?_ (Hc2.out w10 hS) ?_
 . simp[execOp,resolve,invoke,go_sem]
 rintro e w11 ⟨rfl,hb11⟩;refine⟨_,rfl,?_⟩;refine gS ?_ λhS=>?_
 . exact hS.trans (hb11.mono hS.size)
 refine ta 15 (.bool true) hS λhS=>?_
 refine ta 16 (.bool true) hS λhS=>?_
 refine so 17 ?_;refine aG ?_ (dM w11) ?_
 . simp[execOp,resolve,invoke,go_sem]
 rintro e w12 ⟨rfl,hb12⟩;refine⟨_,rfl,?_⟩;refine gS ?_ λhS=>?_
 . exact hS.trans (hb12.mono hS.size)
 refine ta 18 (.bool true) hS λhS=>?_
 refine ta 19 (.bool true) hS λhS=>?_
 refine dn ?_;have HS:=Lh hS;clear hS hwd hbd hb10 hb11 hb12 hbd4;go_wp2_with fail;go_ret;exact⟨rfl,Hb9.out.trans (HS.out.mono Hb9.out.size)⟩
end Go.Proofs.Ytiaoabfndnidiaa
namespace Go.Proofs.Ytiaoabfndnidiaa
open Go.ChangeShapes Go.WideShapes Go.ChangeAt Go.RowKit
theorem Try.own:ownKnob Try.prog.godebug=none:=by kernel_rfl
theorem Try.laidOut:laidOutB Try.prog=true:=by kernel_rfl
theorem eX (os:Os)(started:os.Started)(H:Type)(enc:TypeId × Value->H)(F:Stop.Interp):
 ReturnsInHanded {} Try.checked os 3 .any ((Rows.OpenSpec.upto Rows.checkSoundSpec).pre6 enc Try.prog Try.f3 Rows.checkSoundUptoRow.domain false) (((Rows.OpenSpec.upto Rows.checkSoundSpec).at F).post enc Try.prog Try.f3 false true false false):=by
 refine returnsInHanded_of_cond (C:=Try.checked) (s:=Rows.OpenSpec.upto Rows.checkSoundSpec) (k:=Rows.uptoSmall) rfl Try.own started (by kernel_rfl) Try.func3
  (OpenSpec.witness (enc:=enc) (C:=Try.checked) (s:=Rows.OpenSpec.upto Rows.checkSoundSpec) (k:=Rows.uptoSmall) rfl false ⟨#[],#[.agg #[.slice none 0 0],.agg #[.int .i64 0,.slice none 0 0],.slice none 0 0,.slice none 0 0,.int .i64 0],[]⟩ 8 (by kernel_rfl) (by kernel_rfl) (by kernel_rfl)
   (x:=([.agg [.nil],.agg [.lit (.int .i64 0),.nil],.nil,.nil,.lit (.int .i64 0)],[],[])) (by kernel_rfl) rfl (by kernel_rfl)) ?_
 intro W base args ds gs before hval0 hW _ hk _;have hW':=hW;obtain⟨p,q,hA0,hV,rfl,hfz,hnd⟩:=hW;have hA:DataW.TrodAll enc Try.prog W 0 (λ_=>true) true Try.f3.params.toList args.toList ds p:=hA0;rw[Try.params3]at hA;have hval:∀(j:Nat) t v,Try.f3.params[j]? =some t->args[j]? =some v->Value.okWide Try.prog W .any base t v:=hval0;rw[Try.params3]at hval;obtain⟨v0,vs0,d0,ds0,p0,q0,hargs,rfl,rfl,h0,r0⟩:=trodAll_cons hA;obtain⟨v1,vs1,d1,ds1,p1,q1,rfl,rfl,rfl,h1,r1⟩:=trodAll_cons r0;obtain⟨v2,vs2,d2,ds2,p2,q2,rfl,rfl,rfl,h2,r2⟩:=trodAll_cons r1;obtain⟨v3,vs3,d3,ds3,p3,q3,rfl,rfl,rfl,h3,r3⟩:=trodAll_cons r2;obtain⟨v4,vs4,d4,ds4,p4,q4,rfl,rfl,rfl,h4,r4⟩:=trodAll_cons r3;obtain⟨rfl,rfl,rfl⟩:=trodAll_nil r4;obtain rfl:args= #[v0,v1,v2,v3,v4]:=by cases args;simp_all
 obtain⟨rfl,rfl⟩:=trodVars_none hV;have hb:=of_decide_eq_true hk;simp only[List.append_nil,Rows.uptoBulkAll]at hb;obtain⟨u0,l0,rfl,hr0,hz0⟩:=mY (hval 0 _ v0 rfl rfl) h0 (by omega);obtain⟨n1,u1,l1,rfl,hr1,hz1,hy1⟩:=kC (hval 1 _ v1 rfl rfl) h1 (by omega);obtain⟨l2,hr2,hg2,hz2⟩:=mX (hval 2 _ v2 rfl rfl) h2 (by omega);obtain⟨l3,hr3,hg3,hc3,hz3⟩:=mZ (hval 3 _ v3 rfl rfl) h3 (by omega);obtain⟨n4,rfl,rfl,rfl,w4⟩:=open_int Try.underlying3 (hval 4 _ v4 rfl rfl) h4;refine(tX l0 n1 l1 l2 l3 n4 u0 u1 v2 v3 _ W hr0 hr1 hr2 hr3 (Nat.le_refl _) hg3 (λc hc=>by have:=(hg2 c hc).2;omega) (λs hs=>by have:=hc3 s hs;omega)).mono λe W' ⟨he,hb⟩=>?_
 subst he;exact⟨_,rfl,wT rfl rfl (by
  intro t ht;rw[Try.params3]at ht;simp at ht
  rcases ht with rfl | rfl | rfl | rfl | rfl <;> exact⟨by kernel_rfl,of_decide_eq_true (by kernel_rfl)⟩) Try.laidOut rfl hW' hb⟩
theorem checkSound_holds:Rows.CheckSoundUptoSaid:=
 OpenClaim.holds_of_cond 3 Try.f3 rfl rfl rfl rfl rfl rfl rfl ⟨rfl,rfl,rfl,rfl,rfl⟩ rfl rfl rfl rfl rfl (by kernel_rfl) Try.func3 (by kernel_rfl)
  (of_decide_eq_true (by kernel_rfl)) (by unfold Func.isWrapper;first | (rw[if_pos (by decide+kernel)];kernel_rfl) | (rw[if_neg (by decide+kernel)];exact⟨rfl,rfl⟩))
  (λos started H enc _ F=>eX os started H enc F)
#print axioms checkSound_holds
end Go.Proofs.Ytiaoabfndnidiaa